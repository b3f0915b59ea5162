/- Contract of package inflate: All. -/
import Derived.Test.YtnedboomhbdecaaInfY
namespace Go.Proofs.Ytnedboomhbdecaa
open Go.RowKit
attribute [local go_sem ↓] Go.wp_at_zero Go.wp_at_succ

/-- How All ends. -/
def AlR (B : Nat) (b : List UInt8) (m : Nat) (w0 : World) (e : Ending) (w : World) : Prop :=
  Below B w0 w ∧ ((∃ A n c x k, e = .returned (.tuple #[.slice A n c, .int .i64 ((k : Nat) : Int), .int .i64 0]) ∧ Oc (bitsB b) m (some (x, k)) false ∧ Rd w w.heap.size 1 A n (bys x) ∧ n ≤ c) ∨
    (e = .returned (.tuple #[.slice none 0 0, .int .i64 0, .int .i64 10]) ∧ Oc (bitsB b) m none true) ∨
    (∃ E : Int, E ≠ 0 ∧ e = .returned (.tuple #[.slice none 0 0, .int .i64 0, .int .i64 E]) ∧ Oc (bitsB b) m none false))
/-- Between the rounds. -/
def AlI (B g : Nat) (b : List UInt8) (m : Nat) (w0 : World) (out : Value) (k : Nat) (w : World) : Prop :=
  Below B w0 w ∧ ((k = 1 ∧ out = .slice none 0 0 ∧ ∃ gi S, UN w B g gi S b cf0 (.slice none 0 0) (.pointer none) (.pointer none)) ∨
    (k = 0 ∧ ∃ gi S c A n co A' co' v7 v8, out = .slice A n co ∧ n ≤ co ∧ (w.ownsRow B 5 1 (.slice A n co) n (bys c.out) ∧ (Value.slice A n co).ownBlock ≠ some g) ∧ c.out.length = n ∧ n ≤ m ∧ c.st = 4 ∧ Rn (bitsB b) cf0 c ∧ RdS w S gi b c.a ∧ ¬ S g ∧
      Bk w g 95 #[.pointer (some ⟨gi, 0, none⟩), .slice A' n co', .int .i64 (n : Int), .int .i64 (c.st : Int), .bool c.last, .int .i64 (c.left : Int), .int .i64 (c.back : Int), v7, v8]))
set_option maxRecDepth 100000 in
theorem done_fresh (g : Nat) (c0 c6 v7 v8 : Value) (w : World) (h : Bk w g 95 #[c0, .slice none 0 0, .int .i64 0, .int .i64 0, .bool false, .int .i64 0, c6, v7, v8]) :
    Calls Try.prog 50 #[.pointer (some ⟨g, 0, none⟩)] w fun e w' => e = .returned (.bool false) ∧ ∃ q, w' = w.drewN q := by
  have q1 : w.cell? ⟨g, 1, none⟩ = some (.slice none 0 0) := h.cell 1
  have q2 : w.cell? ⟨g, 2, none⟩ = some (.int .i64 0) := h.cell 2
  have q3 : w.cell? ⟨g, 3, none⟩ = some (.int .i64 0) := h.cell 3
  have q4 : w.cell? ⟨g, 4, none⟩ = some (.bool false) := h.cell 4
  clear h
  go_enter Try.func50, Try.ntmps50
  go_wp2_with fail
  go_quiet (fail)
  go_wp2_with fail
  go_ret
  exact ⟨rfl, _, rfl⟩
def msV : Value → Nat
  | .int _ _ => 0
  | _ => 1
set_option maxHeartbeats 4000000 in
set_option maxRecDepth 100000 in
theorem all_any (A : Option Addr) (n c : Nat) (b : List UInt8) (m : Nat) (w : World) (hr : Rd w w.heap.size 1 A n (bys b)) (hn : n ≤ 1000000) (hm : m ≤ 20000) :
    Calls Try.prog 47 #[.slice A n c, .int .i64 m] w fun e w' => AlR w.heap.size b m w e w' := by
  have hmin : min (m : Int) 16777216 = (m : Int) := by omega
  have Hr := Lib.hid hr
  have Hn := Lib.hid hn
  clear hr hn
  go_enter Try.func47, Try.ntmps47
  go_wp2_with fail
  refine (newi_any w).mono ?_
  rintro e w1 ⟨g, gi, S, rfl, hbk1, hr1, hS1, hSg, hg, hb1⟩
  have hput := put_fresh g gi S A n c b _ _ _ _ _ _ _ _ w1 hbk1 hr1 ((Hr.out.below hb1 (Nat.le_refl _)).more hb1.size) Hn.out
  have Hput := Lib.hid hput
  have Hb1 := Lib.hid hb1
  have Hg := Lib.hid hg
  have Hgl := Lib.hid hbk1.lt
  clear hput hb1 hbk1 hr1 hS1 hSg hg
  go_wp2_with fail
  refine Hput.out.mono ?_
  rintro e w2 ⟨rfl, g2, S2, hbk2, hr2, hS2, hc2⟩
  have hb2 : Below w.heap.size w w2 := Hb1.out.trans (hc2.below Hb1.out.size (fun i hi => hi ▸ Hg.out))
  have hg2 : ¬ S2 g := fun h => by have := hS2 _ h; have := Hgl.out; omega
  have hI : AlI w.heap.size g b m w (.slice none 0 0) 1 w2 :=
    ⟨hb2, .inl ⟨rfl, rfl, g2, S2, hbk2, ⟨hr2, hg2, own_nilB _ _ _, by simp [Value.ownBlock], Hg.out, fun k hk => Nat.le_trans Hb1.out.size (hS2 k hk), hbk2.lt⟩, (fun h => by rcases h with h | h <;> cases h), (fun h => by cases h), by decide, by decide⟩⟩
  have HI := Lib.hid hI
  clear hI hbk2 hr2 hS2 hc2 hb2 hg2 Hput
  go_wp2_with fail
  go_loopw [8, 9, 10] (fun out _ ve wr => ∃ k, msV ve = k ∧ Hid (AlI w.heap.size g b m w out k wr)) (fun _ _ ve _ => msV ve)
  case atStart => exact ⟨1, rfl, HI⟩
  case round =>
    obtain ⟨k, hk, hal⟩ := hrel
    rcases hal.out with ⟨hbw, ⟨rfl, rfl, gi', S', hun⟩ | ⟨rfl, gi', S', c', A1, n1, co1, A2, co2, y7, y8, rfl, hnc1, hrd1, hlen1, hnm1, hst4, hrn, hrs, hSg', hbk⟩⟩
    · have hdn := done_fresh g _ _ _ _ wr hun.bk
      have Hdn := Lib.hid hdn
      have Hun := Lib.hid hun
      have Hbw := Lib.hid hbw
      have Hk := Lib.hid hk
      clear hdn hun hbw hk hal
      go_wp2_with fail
      refine Hdn.out.mono ?_
      rintro e w3 ⟨rfl, q, rfl⟩
      have hun3 := Hun.out.drewN q
      have hb3 := below_drewN Hbw.out q
      obtain ⟨m', hm'⟩ : ∃ m', m + 1 = m' := ⟨_, rfl⟩
      have hw1 : IntKind.i64.wrap ((m : Int) + 1) = (m' : Int) := by rw [IntWalk.i64_in _ (by omega)]; omega
      have hw2 : IntKind.i64.wrap (m' : Int) = (m' : Int) := IntWalk.i64_in _ (by omega)
      have hmin3 : min (65536 : Int) (m' : Int) = (m' : Int) := by omega
      have hge := get_any w.heap.size g gi' S' b cf0 _ _ _ (wr.drewN q) hun3 m' (by omega) hb3.size (by show (0 : Nat) ≤ m'; omega)
      have Hge := Lib.hid hge
      have Hb3 := Lib.hid hb3
      have Hm' := Lib.hid hm'
      clear hge hb3 hun3 hm' Hun Hdn Hbw
      generalize wr.drewN q = w3 at *
      go_wp2_with fail
      refine Hge.out.mono ?_
      rintro e w4 ⟨E, A4, n4, co4, c4, rfl, hlen4, hnm4, hnc4, hrd4, hrn4, hb4, hfin4⟩
      have Hrd4 := Lib.hid hrd4
      have Hrn4 := Lib.hid hrn4
      have Hb4 := Lib.hid hb4
      have Hfin4 := Lib.hid hfin4
      have Hlen4 := Lib.hid hlen4
      clear hrd4 hrn4 hb4 hfin4 hlen4 Hge
      have hm'' := Hm'.out
      by_cases hlong : m < n4
      · have hld : decide (m < n4) = true := by simp [hlong]
        have Hlong := Lib.hid hlong
        go_wp2_with ((at_builtin; refine ap_bys (base := w.heap.size) (w0 := w4) (own_nilB _ _ _) Hrd4.out (Below.refl _ _) (Nat.le_trans Hb3.out.size Hb4.out.size) (by omega) (by rfl) (by rfl) (by rfl) ?_; intro v5 w5 hown5 hb5 hg5 hat5; rw [Nat.zero_add, List.nil_append] at hown5; obtain ⟨A5, c5, rfl, hnc5, _⟩ := own_form hown5; have Hown5 := Lib.hid hown5; have Hb5 := Lib.hid hb5; have Hg5 := Lib.hid hg5; have Hat5 := Lib.hid hat5; have Hnc5 := Lib.hid hnc5; clear hown5 hb5 hg5 hat5 hnc5))
        go_ret3
        exact ⟨Hb3.out.trans (Hb4.out.trans Hb5.out), .inr (.inl ⟨rfl, .long Hrn4.out (by rw [Hlen4.out]; exact Hlong.out)⟩)⟩
      · have hld : decide (m < n4) = false := by simp [hlong]
        have Hlong := Lib.hid hlong
        by_cases hE : E = 0
        · have hz := Hfin4.out.resolve_right (fun h => h.1 hE)
          have Hz := Lib.hid hz
          clear hz
          subst hE
          go_wp2_with ((at_builtin; refine ap_bys (base := w.heap.size) (w0 := w4) (own_nilB _ _ _) Hrd4.out (Below.refl _ _) (Nat.le_trans Hb3.out.size Hb4.out.size) (by omega) (by rfl) (by rfl) (by rfl) ?_; intro v5 w5 hown5 hb5 hg5 hat5; rw [Nat.zero_add, List.nil_append] at hown5; obtain ⟨A5, c5, rfl, hnc5, _⟩ := own_form hown5; have Hown5 := Lib.hid hown5; have Hb5 := Lib.hid hb5; have Hg5 := Lib.hid hg5; have Hat5 := Lib.hid hat5; have Hnc5 := Lib.hid hnc5; clear hown5 hb5 hg5 hat5 hnc5))
          have hz := Hz.out
          obtain ⟨_, h1, h2, hr4, hS4, A', co', y7', y8', hbk4⟩ := hz
          have hst : c4.st = 4 := by
            have := Hlong.out
            rcases h1 with h | h
            · omega
            · exact h
          have hne : (Value.slice A5 n4 c5).ownBlock ≠ some g := fun h => by
            have hlt := hbk4.lt
            rcases Hat5.out with e | e
            · rw [e] at h; cases h
            · rw [e] at h; injection h with h; omega
          have hc45 : Ch (fun _ => False) w4 w5 := (Ch.refl _ w4).grown Hg5.out (fun i hi => by cases hi)
          have hbk5 := hbk4.grown Hg5.out (by simp [Value.ownBlock])
          have hfI : AlI w.heap.size g b m w (.slice A5 n4 c5) 0 w5 :=
            ⟨Hb3.out.trans (Hb4.out.trans Hb5.out), .inr ⟨rfl, gi', S', c4, A5, n4, c5, A', co', y7', y8', rfl, Hnc5.out, ⟨Hown5.out, hne⟩, Hlen4.out, Nat.le_of_not_lt Hlong.out, hst, Hrn4.out, hr4.ch hc45 (fun _ _ h => h), hS4, hbk5⟩⟩
          have HfI := Lib.hid hfI
          clear hfI hbk5 hc45 hne hst hbk4 hr4 hS4 h1 h2
          go_wp2_with fail
          go_roundw
          case rel => exact ⟨0, rfl, HfI⟩
          case measure => rw [Hk.out]; exact Nat.one_pos
        · have hEd : (E != 0) = true := by rw [bne_iff_ne]; exact hE
          have HE := Lib.hid hE
          clear hE
          go_wp2_with ((at_builtin; refine ap_bys (base := w.heap.size) (w0 := w4) (own_nilB _ _ _) Hrd4.out (Below.refl _ _) (Nat.le_trans Hb3.out.size Hb4.out.size) (by omega) (by rfl) (by rfl) (by rfl) ?_; intro v5 w5 hown5 hb5 hg5 hat5; rw [Nat.zero_add, List.nil_append] at hown5; obtain ⟨A5, c5, rfl, hnc5, _⟩ := own_form hown5; have Hown5 := Lib.hid hown5; have Hb5 := Lib.hid hb5; have Hg5 := Lib.hid hg5; have Hat5 := Lib.hid hat5; have Hnc5 := Lib.hid hnc5; clear hown5 hb5 hg5 hat5 hnc5))
          go_ret3
          refine ⟨Hb3.out.trans (Hb4.out.trans Hb5.out), .inr (.inr ⟨E, HE.out, rfl, ?_⟩)⟩
          rcases Hfin4.out with ⟨h, _⟩ | ⟨_, h1, h2, h3⟩
          · exact absurd h HE.out
          · exact .err Hrn4.out h2 (by rw [Hlen4.out]; have := Hlong.out; omega) h3
    · have hdn := done_any g n1 co2 A2 c'.st c'.left c'.last _ _ _ _ wr (by omega) hbk
      have hT : dnB c'.st c'.last c'.left = true := by simp [dnB, hst4]
      rw [hT] at hdn
      have Hdn := Lib.hid hdn
      have Hk := Lib.hid hk
      have Hbw := Lib.hid hbw
      have Hrd1 := Lib.hid hrd1
      have Hlen1 := Lib.hid hlen1
      have Hst4 := Lib.hid hst4
      have Hrn := Lib.hid hrn
      have Hrs := Lib.hid hrs
      have HSg := Lib.hid hSg'
      clear hdn hT hk hal hbw hrd1 hlen1 hst4 hrn hrs hSg' hbk
      go_wp2_with fail
      refine Hdn.out.mono ?_
      rintro e w3 ⟨rfl, ⟨st', hbk3, hst'⟩, hc3⟩
      have hbl := Hr.out.blen
      have hn' := Hn.out
      have hg' := Hg.out
      obtain rfl : st' = 4 := by simpa using hst'
      have hre := rest_any g gi' n1 co2 S' b c'.a A2 4 c'.left c'.last _ y7 y8 w3 (by omega) (Hrs.out.ch hc3 (fun i hi e => HSg.out (e ▸ hi))) HSg.out (by simp [dnB]) (by omega) hbk3
      have hle := Hrs.out.le
      obtain ⟨d, hd⟩ : ∃ d, (8 * b.length - c'.a) / 8 = d := ⟨_, rfl⟩
      rw [hd] at hre
      have hw : IntKind.i64.wrap ((n : Int) - (d : Int)) = (((c'.a + 7) / 8 : Nat) : Int) := by rw [IntWalk.i64_in _ (by omega)]; omega
      have Hre := Lib.hid hre
      have Hc3 := Lib.hid hc3
      clear hre hc3 hbk3 hd hle hbl hn'
      go_wp2_with fail
      refine Hre.out.mono ?_
      rintro e w4 ⟨rfl, hc4⟩
      have hc14 := Hc3.out.trans hc4 (fun i hi => .inl hi)
      have Hc14 := Lib.hid hc14
      clear hc14 hc4
      go_wp2_with fail
      go_ret3
      refine ⟨Hbw.out.trans (Hc14.out.below Hbw.out.size (fun i hi => hi ▸ Hg.out)), .inl ⟨A1, n1, co1, c'.out, (c'.a + 7) / 8, rfl, .ok Hrn.out Hst4.out (by have := Hlen1.out; omega), Rd.of_own (own_ch Hrd1.out.1 Hc14.out (fun i hi e => by subst e; exact Hrd1.out.2 hi)), hnc1⟩⟩
end Go.Proofs.Ytnedboomhbdecaa
