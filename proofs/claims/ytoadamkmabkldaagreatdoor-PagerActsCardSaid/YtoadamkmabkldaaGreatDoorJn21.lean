/- Contracts of package pager: Write, Free, a page's row. -/
import Derived.Test.YtoadamkmabkldaaGreatDoorJn20
import Derived.Shelf.SlicesE.Clone
set_option linter.unusedVariables false
set_option linter.unusedSimpArgs false
namespace Go.Proofs.YtoadamkmabkldaaGreatDoor
open Go.RowKit Go.Shelf
attribute [local go_sem ↓] Go.wp_at_zero Go.wp_at_succ
set_option maxRecDepth 100000 in
theorem clone_any (A : Option Addr) (n c : Nat) (l : List UInt8) (w : World) (hr : Rd w w.heap.size 1 A n (bys l)) (hA : A = none ∨ ∃ b o, A = some ⟨b, o, none⟩) (hn : n ≤ 1000000) :
    Calls Tryz.prog 43 #[.slice A n c] w fun e w' => ∃ A' c', e = .returned (.slice A' n c') ∧ w'.ownsRow w.heap.size 5 1 (.slice A' n c') n (bys l) ∧ Below w.heap.size w w' := by
  rcases hA with rfl | ⟨b, o, rfl⟩
  · have h0 : n = 0 := by
      rcases Nat.eq_zero_or_pos n with h | h
      · exact h
      · obtain ⟨_, _, e, _⟩ := hr.2 h; cases e
    subst h0
    have hl : l = [] := List.eq_nil_of_length_eq_zero hr.blen
    subst hl
    refine (AnyE.slices_Clone_nil Tryz.cloneB 0 c w).mono ?_
    rintro e w' ⟨rfl, rfl⟩
    exact ⟨none, 0, rfl, World.ownsRow_nil _ _ _ _, Below.refl _ _⟩
  · obtain ⟨i0, hi, hz0, hz1, hz2⟩ := info_parts infoB
    refine (AnyE.slices_Clone Tryz.cloneB i0 (.int .u8 0) 1 1 hi hz0 hz1 hz2 rfl (by decide) (fun w => by kernel_rfl) b o n c (bys l) w hr.1 (by unfold maxLen; omega) (by omega) (fun j u hu => ?_) (bys_one l)).mono ?_
    · have h0 : 0 < n := by
        have := (List.getElem?_eq_some_iff.1 hu).1
        rw [bys_len, hr.blen] at this; omega
      obtain ⟨b', o', e, _, hc⟩ := hr.2 h0
      injection e with e
      injection e with e1 e2 _
      subst e1 e2
      exact hc j u hu
    · rintro e w' ⟨v, rfl, h1, _, h2⟩
      obtain ⟨A', c', rfl, _, _⟩ := own_form h1
      exact ⟨A', c', rfl, h1, h2⟩
theorem PgA.put {w : World} {f p mch mcl no B : Nat} {nm : ByteArray} {P : PgP} {tch tcl : Nat → SlT} {vrow : Value} {b : List UInt8} {t : SlT} {O : Nat → Prop} {now : HdP} (h : PgM w f p nm { P with now := now, ch := putK no b P.ch } mch mcl (fun x => if x = no then t else tch x) tcl vrow)
    (hO : ∀ i, PgO p mch mcl tch tcl vrow P i → O i) (hs : P.ch.Pairwise fun p q => p.1 < q.1) (ht : B ≤ t.1) : PgA w (fun i => O i ∨ B ≤ i) f p nm { P with now := now, ch := putK no b P.ch } := by
  refine ⟨mch, mcl, _, tcl, vrow, h, fun i hi => ?_⟩
  rcases hi with e | e | e | e | ⟨k, c, hk, e⟩ | ⟨k, hk, e⟩
  · exact .inl (hO i (.inl e))
  · exact .inl (hO i (.inr (.inl e)))
  · exact .inl (hO i (.inr (.inr (.inl e))))
  · exact .inl (hO i (.inr (.inr (.inr (.inl e)))))
  · have hk' : (putK no b P.ch).lookup k = some c := hk
    rw [lookup_putK no b k P.ch hs] at hk'
    dsimp only at e
    by_cases e2 : k = no
    · rw [if_pos e2] at e
      exact .inr (by omega)
    · rw [if_neg e2] at e hk'
      exact .inl (hO i (.inr (.inr (.inr (.inr (.inl ⟨k, c, hk', e⟩))))))
  · exact .inl (hO i (.inr (.inr (.inr (.inr (.inr ⟨k, hk, e⟩))))))
theorem pgC_free (f : Nat) (nm : ByteArray) (now last : HdP) (mch mcl : Nat) (vrow : Value) (reads : Nat) (dead : Bool) (k : Nat) :
    (pgC f nm now last mch mcl vrow reads dead).setIfInBounds 3 (.int .i64 (k : Int)) = pgC f nm { now with free := k } last mch mcl vrow reads dead := by
  simp [pgC, rtH]
set_option maxHeartbeats 4000000 in
set_option maxRecDepth 100000 in
theorem pwrite_any (f p no n c : Nat) (O : Nat → Prop) (nm : ByteArray) (P : PgP) (A : Option Addr) (b : List UInt8) (w : World) (hP : PgA w O f p nm P) (hok : P.Ok) (hd : P.dead = false) (h1 : 1 ≤ no) (h2 : no < P.now.many) (hm : P.now.many ≤ 65536)
    (hr : Rd w w.heap.size 1 A n (bys b)) (hA : A = none ∨ ∃ b o, A = some ⟨b, o, none⟩) (hn : n ≤ 508) :
    Calls Tryz.prog 13 #[.pointer (some ⟨p, 0, none⟩), .int .i64 (no : Int), .slice A n c] w fun e w' => e = .returned (.int .i64 0) ∧ PgA w' (fun i => O i ∨ w.heap.size ≤ i) f p nm { P with ch := putK no (padB b) P.ch } ∧ Ch O w w' := by
  obtain ⟨mch, mcl, tch, tcl, vrow, h, hO⟩ := hP
  have hbl := hr.blen
  have HU := has_any p P.now.many (no : Int) 1 w (by have := h.hd.cell 26; rw [← hd]; exact this) (h.hd.cell 2)
  rw [if_neg (by omega)] at HU
  replace HU := Lib.hid HU
  have HC := Lib.hid (clone_any A n c b w hr hA (by omega))
  obtain ⟨K, hK⟩ : ∃ K, K = 508 - n := ⟨_, rfl⟩
  have q1 : IntKind.i64.wrap (508 - (n : Int)) = (K : Int) := by rw [IntWalk.i64_in _ (by omega)]; omega
  have hnk : n + K = 508 := by omega
  have HX := Lib.hid (fun w3 A3 c3 (hb : Below w.heap.size w w3) (ho : w3.ownsRow w.heap.size 5 1 (.slice A3 508 c3) 508 (bys (padB b))) =>
    change_any f p mch mcl no 508 c3 nm P tch tcl vrow A3 (padB b) w3 (h.below hb) hok.srt (by have := hok.len; omega) (Rd.of_own ho) (by omega) (by omega) (by omega))
  have hpad : b ++ List.replicate K 0 = padB b := by unfold padB; rw [hbl, hK]
  have HE := Lib.hid (And.intro hnk hpad)
  have HO := Lib.hid (And.intro hO hok.srt)
  have HLt := Lib.hid h.lt
  have hn508 : ¬ (508 : Int) < (n : Int) := by omega
  clear h hO hok hd h1 h2 hm hr hA hn hbl hK hnk hpad
  go_enter Tryz.func13, Tryz.ntmps13
  go_wp2_with fail
  with_reducible refine HU.out.mono ?_
  rintro e wz ⟨rfl, hwz⟩
  replace hwz := hwz.symm
  subst hwz
  go_wp2_with fail
  with_reducible refine HC.out.mono ?_
  rintro e w2 ⟨A2, c2, rfl, o2, b2⟩
  have H2 := Lib.hid (And.intro o2 b2)
  clear o2 b2
  go_wp2_with (with_reducible refine at_append ?_; go_loud ((apply ap_zeros (w0 := w) H2.out.1 K (K : Int) rfl H2.out.2 H2.out.2.size (by have := HE.out.1; omega)); (case hs => kernel_rfl); (case hx => kernel_rfl); (case hw => kernel_rfl); intro v3 w3 o3 b3 g3 x3; rw [HE.out.1, HE.out.2] at o3; obtain ⟨A3, c3, hv3, _, _⟩ := own_form o3; subst hv3; have H3 := HX.out w3 A3 c3 b3 o3; replace H3 := Lib.hid H3; replace b3 := Lib.hid b3; clear o3 g3 x3; try go_frame))
  with_reducible refine H3.out.mono ?_
  rintro e w4 ⟨rfl, t, k1, k2, k3⟩
  have H4 := Lib.hid (And.intro k1 (And.intro k2 k3))
  clear k1 k2 k3
  go_wp2_with fail
  go_ret
  have z3 := b3.out.size
  refine ⟨rfl, (PgA.put (now := P.now) H4.out.1 HO.out.1 HO.out.2 H4.out.2.1).mono (fun i hi _ => ?_), (Ch.of_below b3.out (Nat.le_refl _)).trans H4.out.2.2 (fun i e => .inl ?_)⟩
  · rcases hi with e | e
    · exact .inl e
    · exact .inr (by omega)
  · rw [e]; exact HO.out.1 _ (.inr (.inl rfl))
/-- A free page: the number of the next one. -/
def frB (k : Nat) : List UInt8 := padB (putB [] 4 [(k : Int)])
set_option maxHeartbeats 4000000 in
set_option maxRecDepth 100000 in
theorem free_any (f p no : Nat) (O : Nat → Prop) (nm : ByteArray) (P : PgP) (w : World) (hP : PgA w O f p nm P) (hok : P.Ok) (hd : P.dead = false) (h1 : 1 ≤ no) (h2 : no < P.now.many) (hm : P.now.many ≤ 65536) :
    Calls Tryz.prog 17 #[.pointer (some ⟨p, 0, none⟩), .int .i64 (no : Int)] w fun e w' => e = .returned (.int .i64 0) ∧ PgA w' (fun i => O i ∨ w.heap.size ≤ i) f p nm { P with now := { P.now with free := no }, ch := putK no (frB P.now.free) P.ch } ∧ Ch O w w' := by
  obtain ⟨mch, mcl, tch, tcl, vrow, h, hO⟩ := hP
  have w4 : (wid 4).toNat = 4 := by decide
  have HU := has_any p P.now.many (no : Int) 1 w (by have := h.hd.cell 26; rw [← hd]; exact this) (h.hd.cell 2)
  rw [if_neg (by omega)] at HU
  replace HU := Lib.hid HU
  have c3 : w.cell? ⟨p, 3, none⟩ = some (.int .i64 (P.now.free : Int)) := h.hd.cell 3
  obtain ⟨F, hF⟩ : ∃ F, F = P.now.free := ⟨_, rfl⟩
  rw [← hF] at c3
  have HP := put_any none (some ⟨w.heap.size, 0, none⟩) 0 0 1 1 4 [] [(F : Int)] (w.alloc (.cells #[.int .i64 (F : Int)] 3)) Rd.nil_ ((Rd.oneI w 3 (F : Int)).more (by simp)) (by omega) (by omega)
  rw [w4] at HP
  have HP2 := HP.mono (R' := fun e w' => ∃ A c, e = .returned (.slice A 4 c) ∧ Hid (w'.ownsRow w.heap.size 5 1 (.slice A 4 c) 4 (bys (putB [] 4 [(F : Int)])) ∧ Below w.heap.size w w')) (by
    rintro e w' ⟨v, rfl, k1, k2⟩
    obtain ⟨A, c, rfl, _, _⟩ := own_form k1
    exact ⟨A, c, rfl, Lib.hid ⟨own_base k1 (by simp), ((Below.refl _ _).alloc (Nat.le_refl _) _).trans (k2.mono (by simp))⟩⟩)
  replace HP := Lib.hid HP2
  have hfr : putB [] 4 [(F : Int)] ++ List.replicate 504 0 = frB F := by
    unfold frB padB
    rw [putB_len]; rfl
  have HX := Lib.hid (fun w3 A3 c3 (hb : Below w.heap.size w w3) (ho : w3.ownsRow w.heap.size 5 1 (.slice A3 508 c3) 508 (bys (frB F))) =>
    change_any f p mch mcl no 508 c3 nm P tch tcl vrow A3 (frB F) w3 (h.below hb) hok.srt (by have := hok.len; omega) (Rd.of_own ho) (by omega) (by omega) (by omega))
  have HO := Lib.hid (And.intro hO hok.srt)
  have HE := Lib.hid (And.intro hfr hF)
  clear h hO hok hd h1 h2 hm hF w4 HP2 hfr
  go_enter Tryz.func17, Tryz.ntmps17
  go_wp2_with fail
  with_reducible refine HU.out.mono ?_
  rintro e wz ⟨rfl, hwz⟩
  replace hwz := hwz.symm
  subst hwz
  go_wp2_with (first
    | (go_at_call 47; with_reducible refine HP.out.mono ?_; rintro e w2 ⟨A2, c2, rfl, H2⟩)
    | (with_reducible refine at_append ?_; go_loud ((apply ap_zeros (w0 := w) H2.out.1 504 504 rfl H2.out.2 H2.out.2.size (by omega)); (case hs => kernel_rfl); (case hx => kernel_rfl); (case hw => kernel_rfl); intro v3 w3 o3 b3 g3 x3; rw [HE.out.1] at o3; obtain ⟨A3, c3, hv3, _, _⟩ := own_form o3; subst hv3; have H3 := HX.out w3 A3 c3 b3 o3; replace H3 := Lib.hid H3; replace b3 := Lib.hid b3; clear o3 g3 x3; try go_frame)))
  with_reducible refine H3.out.mono ?_
  rintro e w4 ⟨rfl, t, k1, k2, k3⟩
  have c4 : w4.cell? ⟨p, 3, none⟩ = some (.int .i64 (F : Int)) := by rw [HE.out.2]; exact k1.hd.cell 3
  have f4 := k1.hd.free 3
  have hb5 : Bk (w4.setCell ⟨p, 3, none⟩ (.int .i64 (no : Int))) p 67 (pgC f nm { P.now with free := no } P.last mch mcl vrow P.reads P.dead) := pgC_free f nm P.now P.last mch mcl vrow P.reads P.dead no ▸ k1.hd.set 3 _
  have hc5 : Ch (fun i => i = p) w4 (w4.setCell ⟨p, 3, none⟩ (.int .i64 (no : Int))) := (Ch.refl (fun i => i = p) w4).set (p := ⟨p, 3, none⟩) (.inl rfl) _
  have k5 := k1.own _ _ P.reads P.dead hb5 hc5
  have H4 := Lib.hid (And.intro k5 (And.intro k2 (And.intro k3 hc5)))
  clear k1 k2 k3 k5 hb5 hc5
  go_wp2_with fail
  go_ret
  have z3 := b3.out.size
  rw [← HE.out.2]
  refine ⟨rfl, (PgA.put (now := { P.now with free := no }) H4.out.1 HO.out.1 HO.out.2 H4.out.2.1).mono (fun i hi _ => ?_), ((Ch.of_below b3.out (Nat.le_refl _)).trans H4.out.2.2.1 (fun i e => .inl ?_)).trans H4.out.2.2.2 (fun i e => .inl ?_)⟩
  · rcases hi with e | e
    · exact .inl e
    · exact .inr (by omega)
  · rw [e]; exact HO.out.1 _ (.inr (.inl rfl))
  · rw [e]; exact HO.out.1 _ (.inl rfl)
end Go.Proofs.YtoadamkmabkldaaGreatDoor
/- Contracts of package pager: Alloc, Read. -/
namespace Go.Proofs.YtoadamkmabkldaaGreatDoor
open Go.RowKit Go.Shelf
attribute [local go_sem ↓] Go.wp_at_zero Go.wp_at_succ
theorem put4_len (k : Nat) : (putB [] 4 [(k : Int)]).length = 4 := by rw [putB_len]; rfl
theorem frB_len (k : Nat) : (frB k).length = 508 := by
  unfold frB
  rw [padB_len _ (by rw [put4_len]; decide)]
theorem frB_next {k : Nat} (h : k ≤ 65536) : leN (((frB k).drop 0).take 4) = (k : Int) := by
  have e : ((frB k).drop 0).take 4 = leB (k : Int) 4 := by
    unfold frB padB
    rw [List.drop_zero, List.take_append_of_le_length (by rw [put4_len]; decide), List.take_of_length_le (by rw [put4_len]; decide)]
    simp [putB]
  rw [e, leN_leB]
  have : (256 : Int) ^ 4 = 4294967296 := by decide
  rw [this]; omega
theorem alloc_at0 (f p : Nat) (O : Nat → Prop) (nm : ByteArray) (P : PgP) (w : World) (hP : PgA w O f p nm P) (hok : P.Ok) (hd : P.dead = false) (hf : P.now.free = 0) (hm : P.now.many < 65536) :
    Calls Tryz.prog 12 #[.pointer (some ⟨p, 0, none⟩)] w fun e w' => e = .returned (.tuple #[.int .i64 (P.now.many : Int), .int .i64 0]) ∧
      PgA w' (fun i => O i ∨ w.heap.size ≤ i) f p nm { P with now := { P.now with many := P.now.many + 1 }, ch := putK P.now.many (List.replicate 508 0) P.ch } ∧ Ch O w w' := by
  obtain ⟨mch, mcl, tch, tcl, vrow, h, hO⟩ := hP
  refine (alloc_new f p mch mcl nm P tch tcl vrow w h hd hok.srt (by have := hok.len; omega) hf hm).mono ?_
  rintro e w' ⟨rfl, t, h1, h2, h3⟩
  refine ⟨rfl, PgA.put h1 hO hok.srt h2, h3.mono (fun i e => ?_)⟩
  rcases e with rfl | rfl
  · exact hO _ (.inl rfl)
  · exact hO _ (.inr (.inl rfl))
theorem PgB.rd2 {W : World} {t : SlT} {b : List UInt8} (h : PgB W t b) (hl : b.length = 508) : ∃ g c, t = (g, 508, c) ∧ Rd W W.heap.size 1 (some ⟨g, 0, none⟩) 508 (bys b) ∧ 508 ≤ c ∧ c ≤ maxLen := by
  obtain ⟨h1, h2, h3, h4⟩ := h.rd
  obtain ⟨g, n, c⟩ := t
  dsimp only at h1 h2 h3 h4
  rw [hl] at h2
  subst h2
  exact ⟨g, c, rfl, h1, h3, h4⟩
set_option maxHeartbeats 4000000 in
set_option maxRecDepth 100000 in
theorem alloc_at (f p F F2 : Nat) (O1 O2 : Nat → Prop) (S : FsP) (nm : ByteArray) (P : PgP) (b : List UInt8) (w : World) (hA : PgA w O2 f p nm P) (hF : FsA w O1 f S) (hs : nm.size ≤ 100) (hok : P.Ok) (hd : P.dead = false) (hfr : P.now.free = F) (hf1 : 1 ≤ F) (hf2 : F < 65536) (hrd : P.reads ≤ 1000000)
    (hH : P.ch.lookup F = none → F ∉ P.row → Holds S nm.data.toList F b) (hc : contB P F b = frB F2) (hF2 : F2 ≤ 65536) :
    Calls Tryz.prog 12 #[.pointer (some ⟨p, 0, none⟩)] w fun e w' => e = .returned (.tuple #[.int .i64 (F : Int), .int .i64 0]) ∧
      PgA w' (fun i => O2 i ∨ w.heap.size ≤ i) f p nm { pgR P F b with now := { (pgR P F b).now with free := F2 }, ch := putK F (List.replicate 508 0) (pgR P F b).ch } ∧ Ch O2 w w' := by
  have HPg := page_at f p F O1 O2 S nm P b w hA hF hs hok (by omega) hrd hH
  rw [hc] at HPg
  have hRok := pgR_ok hok b (show F ≤ 65536 by omega)
  obtain ⟨hR1, hR2, hR3, hR4, hR5⟩ := pgR_same P F b
  generalize hRr : pgR P F b = R at *
  have HPg2 := HPg.mono (R' := fun e w' => ∃ g c, e = .returned (.tuple #[.slice (some ⟨g, 0, none⟩) 508 c, .int .i64 0]) ∧ Hid (PgA w' (fun i => O2 i ∨ w.heap.size ≤ i) f p nm R ∧ Rd w' w'.heap.size 1 (some ⟨g, 0, none⟩) 508 (bys (frB F2)) ∧ 508 ≤ c ∧ Ch O2 w w')) (by
    rintro e w' ⟨t, rfl, k1, k2, k3, k4⟩
    obtain ⟨g, c, rfl, k5, k6, _⟩ := k2.rd2 (frB_len _)
    exact ⟨g, c, rfl, Lib.hid ⟨k1, k5, k6, k3⟩⟩)
  replace HPg := Lib.hid HPg2
  obtain ⟨mch0, mcl0, tch0, tcl0, vrow0, h, hO⟩ := hA
  have HU := Lib.hid (up_any p false w (by have := h.hd.cell 26; rw [← hd]; exact this))
  have c3 : w.cell? ⟨p, 3, none⟩ = some (.int .i64 (F : Int)) := by rw [← hfr]; exact h.hd.cell 3
  have hF0 : ¬ (F : Int) = 0 := by omega
  obtain ⟨K, hK⟩ : ∃ K : Nat, K = 508 := ⟨_, rfl⟩
  have mk := fun W => mk_bys K 508 508 (by omega) (by omega) (by omega) W
  have HG := Lib.hid (fun W g c (hr : Rd W W.heap.size 1 (some ⟨g, 0, none⟩) 508 (bys (frB F2))) (hc : 508 ≤ c) => by
    have := get_ok (some ⟨g, 0, none⟩) 508 c 0 4 (frB F2) W hr hc (by show (0 : Int) + wid 4 ≤ 508; decide) (by omega)
    rw [show (wid 4).toNat = 4 by decide, frB_next hF2, show ((0 : Nat) : Int) = 0 from rfl] at this
    exact this)
  have HH := Lib.hid (And.intro hRok (And.intro hf1 (And.intro hf2 hK)))
  have HO := Lib.hid hO
  clear h hO hF hs hok hd hfr hf1 hf2 hrd hH hc hF2 HPg2 hRok hR1 hR2 hR3 hR4 hR5 hK
  go_enter Tryz.func12, Tryz.ntmps12
  go_wp2_with fail
  with_reducible refine HU.out.mono ?_
  rintro e wz ⟨rfl, hwz⟩
  replace hwz := hwz.symm
  subst hwz
  go_wp2_with fail
  with_reducible refine HPg.out.mono ?_
  rintro e w2 ⟨g, c, rfl, H2⟩
  have HG2 := HG.out w2 g c H2.out.2.1 H2.out.2.2.1
  replace HG2 := Lib.hid HG2
  go_wp2_with fail
  with_reducible refine HG2.out.mono ?_
  rintro e w3 ⟨rfl, b3⟩
  obtain ⟨mch, mcl, tch, tcl, vrow, h2, hO2⟩ := H2.out.1
  have h3 := h2.below b3
  have k3 : w3.cell? ⟨p, 3, none⟩ = some (.int .i64 (R.now.free : Int)) := h3.hd.cell 3
  have f3 := h3.hd.free 3
  have hb4 : Bk (w3.setCell ⟨p, 3, none⟩ (.int .i64 (F2 : Int))) p 67 (pgC f nm { R.now with free := F2 } R.last mch mcl vrow R.reads R.dead) := pgC_free f nm R.now R.last mch mcl vrow R.reads R.dead F2 ▸ h3.hd.set 3 _
  have hc4 : Ch (fun i => i = p) w3 (w3.setCell ⟨p, 3, none⟩ (.int .i64 (F2 : Int))) := (Ch.refl (fun i => i = p) w3).set (p := ⟨p, 3, none⟩) (.inl rfl) _
  have h4 := h3.own _ _ R.reads R.dead hb4 hc4
  have hl4 := h4.lt
  have h5 := h4.heap (W' := (w3.setCell ⟨p, 3, none⟩ (.int .i64 (F2 : Int))).alloc (.cells (bys (List.replicate K 0)).toArray 5)) (by simp) (fun i hi => Below.heap_alloc _ _ i (hl4 i hi))
  have hrd : Rd ((w3.setCell ⟨p, 3, none⟩ (.int .i64 (F2 : Int))).alloc (.cells (bys (List.replicate K 0)).toArray 5)) ((w3.setCell ⟨p, 3, none⟩ (.int .i64 (F2 : Int))).alloc (.cells (bys (List.replicate K 0)).toArray 5)).heap.size 1 (some ⟨w3.heap.size, 0, none⟩) K (bys (List.replicate K 0)) :=
    rd_blk (fr := (0, 0)) (by have := heap_alloc_new (w3.setCell ⟨p, 3, none⟩ (.int .i64 (F2 : Int))) (.cells (bys (List.replicate K 0)).toArray 5); rwa [show (w3.setCell ⟨p, 3, none⟩ (.int .i64 (F2 : Int))).heap.size = w3.heap.size by simp [World.setCell]] at this) (by simp [bys]) (by simp)
  have HC := Lib.hid (by
    obtain ⟨q1, q2, q3, q4⟩ := HH.out
    exact change_any f p mch mcl F K K nm _ tch tcl vrow _ (List.replicate K 0) _ h5 q1.srt (by have := q1.len; show R.ch.length ≤ _; omega) hrd (by omega) (by omega) (by omega))
  have HZ := Lib.hid (And.intro b3 (And.intro hc4 (And.intro hO2 (h4.lt))))
  clear b3 h2 hO2 h3 hb4 hc4 h4 hl4 h5 hrd
  go_wp2_with fail
  with_reducible refine HC.out.mono ?_
  rintro e w6 ⟨rfl, t, g1, g2, g3⟩
  have HY := Lib.hid (And.intro g1 (And.intro g2 g3))
  clear g1 g2 g3
  go_wp2_with fail
  go_ret2
  have z2 := H2.out.2.2.2.size
  have z3 := HZ.out.1.size
  have z4 := HZ.out.2.1.size
  have hz : w3.heap.size ≤ ((w3.setCell ⟨p, 3, none⟩ (.int .i64 (F2 : Int))).alloc (.cells (bys (List.replicate K 0)).toArray 5)).heap.size := by simp [World.setCell]
  have hk : K = 508 := HH.out.2.2.2
  subst hk
  have hCh : Ch O2 w w6 := ((H2.out.2.2.2.trans (Ch.of_below (S := fun _ => False) HZ.out.1 (Nat.le_refl _)) (fun i e => e.elim)).trans (HZ.out.2.1.alloc _) (fun i e => ?_)).trans HY.out.2.2 (fun i e => ?_)
  · refine ⟨rfl, (PgA.put (now := { R.now with free := F2 }) HY.out.1 HZ.out.2.2.1 HH.out.1.srt HY.out.2.1).mono (fun i hi _ => ?_), hCh⟩
    rcases hi with (e | e) | e
    · exact .inl e
    · exact .inr e
    · exact .inr (by omega)
  · have := HZ.out.2.2.1 i (.inl e)
    rcases this with h | h
    · exact .inl h
    · exact .inr h
  · have := HZ.out.2.2.1 i (.inr (.inl e))
    rcases this with h | h
    · exact .inl h
    · exact .inr h
end Go.Proofs.YtoadamkmabkldaaGreatDoor
/- Contracts of package pager: Read of a page, Frees. -/
namespace Go.Proofs.YtoadamkmabkldaaGreatDoor
open Go.RowKit Go.Shelf
attribute [local go_sem ↓] Go.wp_at_zero Go.wp_at_succ
theorem pc0 {w : World} {O : Nat → Prop} {f p : Nat} {nm : ByteArray} {P : PgP} (h : PgA w O f p nm P) (hd : P.dead = false) :
    w.cell? ⟨p, 26, none⟩ = some (.bool false) ∧ w.cell? ⟨p, 2, none⟩ = some (.int .i64 (P.now.many : Int)) ∧ w.cell? ⟨p, 3, none⟩ = some (.int .i64 (P.now.free : Int)) ∧ w.cell? ⟨p, 0, none⟩ = some (.pointer (some ⟨f, 0, none⟩)) ∧ O p ∧ p < w.heap.size := by
  obtain ⟨mch, mcl, tch, tcl, vrow, h, hO⟩ := h
  exact ⟨by have := h.hd.cell 26; rw [← hd]; exact this, h.hd.cell 2, h.hd.cell 3, h.hd.cell 0, hO _ (.inl rfl), h.hd.lt⟩
set_option maxHeartbeats 4000000 in
set_option maxRecDepth 100000 in
theorem pread_any (f p no : Nat) (O1 O2 : Nat → Prop) (S : FsP) (nm : ByteArray) (P : PgP) (b : List UInt8) (w : World) (hA : PgA w O2 f p nm P) (hF : FsA w O1 f S) (hs : nm.size ≤ 100) (hok : P.Ok) (hd : P.dead = false) (h1 : 1 ≤ no) (h2 : no < P.now.many) (hm : P.now.many ≤ 65536) (hrd : P.reads ≤ 1000000)
    (hH : P.ch.lookup no = none → no ∉ P.row → Holds S nm.data.toList no b) (hl : (contB P no b).length = 508) :
    Calls Tryz.prog 16 #[.pointer (some ⟨p, 0, none⟩), .int .i64 (no : Int)] w fun e w' => ∃ A c B, e = .returned (.tuple #[.slice A 508 c, .int .i64 0]) ∧ w.heap.size ≤ B ∧ w'.ownsRow B 5 1 (.slice A 508 c) 508 (bys (contB P no b)) ∧
      PgA w' (fun i => (O2 i ∨ w.heap.size ≤ i) ∧ i < B) f p nm (pgR P no b) ∧ Ch O2 w w' := by
  have HPg := page_at f p no O1 O2 S nm P b w hA hF hs hok (by omega) hrd hH
  obtain ⟨c26, c2, c3, c0, hOp, _⟩ := pc0 hA hd
  have HU := has_any p P.now.many (no : Int) 0 w c26 c2
  rw [if_neg (by omega)] at HU
  replace HU := Lib.hid HU
  generalize contB P no b = bb at *
  have HPg2 := HPg.mono (R' := fun e w' => ∃ g c, e = .returned (.tuple #[.slice (some ⟨g, 0, none⟩) 508 c, .int .i64 0]) ∧ Hid (PgA w' (fun i => O2 i ∨ w.heap.size ≤ i) f p nm (pgR P no b) ∧ Rd w' w'.heap.size 1 (some ⟨g, 0, none⟩) 508 (bys bb) ∧ Ch O2 w w')) (by
    rintro e w' ⟨t, rfl, k1, k2, k3, k4⟩
    obtain ⟨g, c, rfl, k5, k6, _⟩ := k2.rd2 hl
    exact ⟨g, c, rfl, Lib.hid ⟨k1, k5, k3⟩⟩)
  replace HPg := Lib.hid HPg2
  have HC := Lib.hid (fun W g c hr => clone_any (some ⟨g, 0, none⟩) 508 c bb W hr (.inr ⟨g, 0, rfl⟩) (by omega))
  have hn0 : ¬ (no : Int) = 0 := by omega
  clear hA hF hs hok hd h1 h2 hm hrd hH hl HPg2 c26 c2 c3 c0 hOp
  go_enter Tryz.func16, Tryz.ntmps16
  go_wp2_with fail
  with_reducible refine HU.out.mono ?_
  rintro e wz ⟨rfl, hwz⟩
  replace hwz := hwz.symm
  subst hwz
  go_wp2_with fail
  with_reducible refine HPg.out.mono ?_
  rintro e w2 ⟨g, c, rfl, H2⟩
  have HC2 := Lib.hid (HC.out w2 g c H2.out.2.1)
  go_wp2_with fail
  with_reducible refine HC2.out.mono ?_
  rintro e w3 ⟨A3, c3, rfl, o3, b3⟩
  have H3 := Lib.hid (And.intro o3 b3)
  clear o3 b3
  go_wp2_with fail
  go_ret2
  have z2 := H2.out.2.2.size
  exact ⟨A3, c3, w2.heap.size, rfl, z2, H3.out.1, (H2.out.1.mono (fun i hi hl => ⟨hi, hl⟩)).below H3.out.2, H2.out.2.2.trans (Ch.of_below (S := fun _ => False) H3.out.2 (Nat.le_refl _)) (fun i e => e.elim)⟩
/-- The free pages, one after another. -/
def Chain (c : Nat → List UInt8) : Nat → List Nat → Prop
  | x, [] => x = 0
  | x, y :: r => x = y ∧ 1 ≤ y ∧ y < 65536 ∧ ∃ n, c y = frB n ∧ n ≤ 65536 ∧ Chain c n r
theorem Chain.head {c : Nat → List UInt8} {x : Nat} {F : List Nat} (h : Chain c x F) (hx : x ≠ 0) : ∃ r, F = x :: r := by
  cases F with
  | nil => exact absurd h hx
  | cons y r => exact ⟨r, by rw [h.1]⟩
/-- Two pagers that differ by what was read alone. -/
structure PgS (P Q : PgP) (c : Nat → List UInt8) (k : Nat) : Prop where
  now : Q.now = P.now
  last : Q.last = P.last
  ch : Q.ch = P.ch
  dead : Q.dead = P.dead
  ok : Q.Ok
  kept : Kept Q c
  reads : Q.reads ≤ P.reads + k
theorem PgS.refl {P : PgP} {c : Nat → List UInt8} (h : P.Ok) (hk : Kept P c) : PgS P P c 0 := ⟨rfl, rfl, rfl, rfl, h, hk, Nat.le_refl _⟩
theorem PgS.step {P Q : PgP} {c : Nat → List UInt8} {k no : Nat} (h : PgS P Q c k) (hn : no ≤ 65536) : PgS P (pgR Q no (c no)) c (k + 1) := by
  obtain ⟨h1, h2, h3, h4, h5⟩ := pgR_same Q no (c no)
  exact ⟨h1.trans h.now, h2.trans h.last, h3.trans h.ch, h4.trans h.dead, pgR_ok h.ok _ hn, pgR_kept h.kept no, by have := h.reads; omega⟩
/-- What a page is: changed, or as in the file. -/
def cont (P : PgP) (c : Nat → List UInt8) (no : Nat) : List UInt8 := (P.ch.lookup no).getD (c no)
/-- A pager and its store, as they are to be. -/
structure Good (P : PgP) (S : FsP) (nm : List UInt8) (c : Nat → List UInt8) : Prop where
  ok : P.Ok
  kept : Kept P c
  dead : P.dead = false
  many : P.now.many ≤ 65536
  hold : ∀ no, no < P.now.many → P.ch.lookup no = none → Holds S nm no (c no)
  len : ∀ no, 1 ≤ no → no < P.now.many → (cont P c no).length = 508
theorem Good.same {P Q : PgP} {S : FsP} {nm : List UInt8} {c : Nat → List UInt8} {k : Nat} (h : Good P S nm c) (hs : PgS P Q c k) : Good Q S nm c ∧ cont Q c = cont P c := by
  have e : cont Q c = cont P c := by funext no; unfold cont; rw [hs.ch]
  refine ⟨⟨hs.ok, hs.kept, hs.dead.trans h.dead, by rw [hs.now]; exact h.many, fun no h1 h2 => ?_, fun no h1 h2 => ?_⟩, e⟩
  · rw [hs.now] at h1
    rw [hs.ch] at h2
    exact h.hold no h1 h2
  · rw [e]
    rw [hs.now] at h2
    exact h.len no h1 h2
theorem Good.page {P : PgP} {S : FsP} {nm : ByteArray} {c : Nat → List UInt8} (h : Good P S nm.data.toList c) {f p no : Nat} {O1 O2 : Nat → Prop} {w : World} (hA : PgA w O2 f p nm P) (hF : FsA w O1 f S) (hs : nm.size ≤ 100) (h2 : no < P.now.many) (hrd : P.reads ≤ 1000000) :
    Calls Tryz.prog 39 #[.pointer (some ⟨p, 0, none⟩), .int .i64 (no : Int)] w fun e w' => ∃ t, e = .returned (.tuple #[slV t, .int .i64 0]) ∧ PgA w' (fun i => O2 i ∨ w.heap.size ≤ i) f p nm (pgR P no (c no)) ∧ PgB w' t (cont P c no) ∧ Ch O2 w w' ∧ (O2 t.1 ∨ w.heap.size ≤ t.1) := by
  have := page_at f p no O1 O2 S nm P (c no) w hA hF hs h.ok (by have := h.many; omega) hrd (fun h3 _ => h.hold no h2 h3)
  rw [contB_of h.kept] at this
  exact this
end Go.Proofs.YtoadamkmabkldaaGreatDoor
/- Contracts of package pager: Frees. -/
namespace Go.Proofs.YtoadamkmabkldaaGreatDoor
open Go.RowKit Go.Shelf
attribute [local go_sem ↓] Go.wp_at_zero Go.wp_at_succ
theorem own_head {w : World} {base n : Nat} {e : TypeId} {v : Value} {xs : List Value} (h : w.ownsRow base e 1 v n xs) : ∀ i, v.ownBlock = some i → base ≤ i ∧ i < w.heap.size ∨ (v = .slice none 0 0) := by
  rcases h.2 with ⟨h2, _⟩ | ⟨g, cap, cur, rfl, hg, hh, _⟩
  · intro i _; exact .inr h2
  · intro i hi
    simp [Value.ownBlock] at hi
    subst hi
    exact .inl ⟨hg, (Array.getElem?_eq_some_iff.1 hh).1⟩
def slLen (v : Value) : Nat := match v with | .slice _ n _ => n | _ => 0
/-- A row of numbers of the call's own, apart from the pager. -/
structure FrL (w W : World) (O : Nat → Prop) (f p : Nat) (nm : ByteArray) (v : Value) (l : List Nat) (P Q : PgP) (c : Nat → List UInt8) (k : Nat) : Prop where
  own : W.ownsRow w.heap.size 3 1 v l.length (its (natI l))
  same : PgS P Q c k
  ch : Ch O w W
  pg : ∃ Oi : Nat → Prop, PgA W Oi f p nm Q ∧ (∀ i, Oi i → O i ∨ w.heap.size ≤ i) ∧ (∀ i, v.ownBlock = some i → w.heap.size ≤ i ∧ i < W.heap.size ∧ ¬ Oi i)
section
variable {w wr w1 w2 : World} {O : Nat → Prop} {f p : Nat} {nm : ByteArray} {v v2 : Value} {l : List Nat} {P Q Q2 : PgP} {c : Nat → List UInt8} {k : Nat}
theorem FrL.below (h : FrL w w1 O f p nm v l P Q c k) (hb : Below w1.heap.size w1 w2) : FrL w w2 O f p nm v l P Q c k := by
  obtain ⟨Oi, h1, h2, h3⟩ := h.pg
  exact ⟨own_ch h.own (Ch.of_below (S := fun _ => False) hb (Nat.le_refl _)) (fun _ _ e => e), h.same, h.ch.trans (Ch.of_below (S := fun _ => False) hb (Nat.le_refl _)) (fun i e => e.elim), Oi, h1.below hb, h2, fun i hi => by
    obtain ⟨a1, a2, a3⟩ := h3 i hi
    have := hb.size
    exact ⟨a1, by omega, a3⟩⟩
theorem FrL.step {Oi : Nat → Prop} {g x : Nat} {b : List UInt8} {o : Obj} (h : FrL w wr O f p nm v l P Q c k) (hOi : ∀ i, Oi i → O i ∨ w.heap.size ≤ i) (hv : ∀ i, v.ownBlock = some i → w.heap.size ≤ i ∧ i < wr.heap.size ∧ ¬ Oi i)
    (k1 : PgA w1 (fun k => (Oi k ∨ wr.heap.size ≤ k) ∧ k < w1.heap.size) f p nm Q2) (kr : Rd w1 w1.heap.size 1 (some ⟨g, 0, none⟩) 508 (bys b)) (kc : Ch Oi wr w1) (kg : Oi g ∨ wr.heap.size ≤ g) (kgl : g < w1.heap.size)
    (g2 : (w1.alloc o).grownBy w2 v.ownBlock) (x2 : v2.ownBlock = v.ownBlock ∨ v2.ownBlock = some (w1.alloc o).heap.size) (o2 : w2.ownsRow w.heap.size 3 1 v2 (l.length + 1) (its (natI l ++ [(x : Int)]))) (hs : PgS P Q2 c (k + 1)) :
    FrL w w2 O f p nm v2 (l ++ [x]) P Q2 c (k + 1) ∧ Rd w2 w2.heap.size 1 (some ⟨g, 0, none⟩) 508 (bys b) := by
  have hz := kc.size
  have hz2 := g2.size
  have hz1 : (w1.alloc o).heap.size = w1.heap.size + 1 := by simp
  have hzw := h.ch.size
  have hk : ∀ i, i < w1.heap.size → v.ownBlock ≠ some i → w2.heap[i]? = w1.heap[i]? := fun i hi hn => (g2.block i (by omega) (fun e => hn e.symm)).trans (Below.heap_alloc w1 o i hi)
  have hvO : ∀ i, (Oi i ∨ wr.heap.size ≤ i) → v.ownBlock ≠ some i := fun i hi e => by
    obtain ⟨_, a2, a3⟩ := hv i e
    rcases hi with e | e
    · exact a3 e
    · omega
  refine ⟨⟨?_, hs, (h.ch.trans kc hOi).trans ((Ch.refl (fun i => v.ownBlock = some i) w1).alloc o |>.grown g2 (fun i e => .inl e)) (fun i e => .inr (hv i e).1), _, k1.heap (by omega) (fun i hi hl => hk i hl (hvO i hi.1)), fun i hi => ?_, fun i hi => ?_⟩, ?_⟩
  · rw [List.length_append, List.length_singleton, show natI (l ++ [x]) = natI l ++ [(x : Int)] by simp [natI]]
    exact o2
  · rcases hi.1 with e | e
    · exact hOi i e
    · exact .inr (by omega)
  · rcases x2 with e | e
    · rw [e] at hi
      obtain ⟨a1, a2, a3⟩ := hv i hi
      exact ⟨a1, by omega, fun e => hvO i e.1 hi⟩
    · rw [e] at hi
      injection hi with hi
      have h1 := o2.1
      have hlt : i < w2.heap.size := by
        obtain ⟨g', c', hv', _, h4, _⟩ := own_pos o2 (by omega)
        rw [hv'] at e
        simp [Value.ownBlock] at e
        omega
      exact ⟨by omega, hlt, fun e => by have := e.2; omega⟩
  · refine ⟨kr.1, fun h0 => ?_⟩
    obtain ⟨b', o', e, _, hc⟩ := kr.2 h0
    injection e with e
    injection e with e1 e2 _
    subst e1 e2
    exact ⟨g, 0, rfl, by omega, fun j u hu => (World.cell?_of_block (a := ⟨g, 0 + j, none⟩) (hk g kgl (hvO g kg))).trans (hc j u hu)⟩
end
set_option maxHeartbeats 4000000 in
set_option maxRecDepth 100000 in
theorem frees_any (f p : Nat) (O1 O2 : Nat → Prop) (S : FsP) (nm : ByteArray) (P : PgP) (c : Nat → List UInt8) (F : List Nat) (w : World) (hA : PgA w O2 f p nm P) (hF : FsA w O1 f S) (h12 : ∀ i, O1 i → ¬ O2 i) (hs : nm.size ≤ 100) (hG : Good P S nm.data.toList c) (hrd : P.reads + F.length ≤ 1000000)
    (hC : Chain (cont P c) P.now.free F) (hFl : F.length < P.now.many) (hFm : ∀ k ∈ F, k < P.now.many) :
    Calls Tryz.prog 24 #[.pointer (some ⟨p, 0, none⟩)] w fun e w' => ∃ A cc Q, e = .returned (.tuple #[.slice A F.length cc, .int .i64 0]) ∧ FrL w w' O2 f p nm (.slice A F.length cc) F P Q c F.length := by
  obtain ⟨c26, c2, c3, c0, hOp, _⟩ := pc0 hA hG.dead
  have HU := Lib.hid (up_any p false w c26)
  obtain ⟨F0, hF0⟩ : ∃ F0, F0 = P.now.free := ⟨_, rfl⟩
  rw [← hF0] at c3 hC
  have HH := Lib.hid (And.intro hF (And.intro h12 (And.intro hs (And.intro hG (And.intro hrd (And.intro hFl hFm))))))
  have H0 := Lib.hid (And.intro hA hC)
  clear hA hF h12 hs hG hrd hFl hFm hC c2 c0 hOp hF0
  go_enter Tryz.func24, Tryz.ntmps24
  go_wp2_with fail
  with_reducible refine HU.out.mono ?_
  rintro e wz ⟨rfl, hwz⟩
  replace hwz := hwz.symm
  subst hwz
  go_wp2_with fail
  go_loopw [5, 6] (fun s5 s6 wr => ∃ (i x : Nat) (Q : PgP) (A : Option Addr) (cc : Nat), s6 = .int .i64 (x : Int) ∧ s5 = .slice A i cc ∧ Hid (i ≤ F.length ∧ Chain (cont P c) x (F.drop i) ∧ FrL w wr O2 f p nm (.slice A i cc) (F.take i) P Q c i)) (fun s5 _ _ => F.length - slLen s5)
  case atStart => exact ⟨0, F0, P, none, 0, rfl, rfl, Lib.hid ⟨Nat.zero_le _, H0.out.2, ⟨World.ownsRow_nil _ _ _ _, .refl HH.out.2.2.2.1.ok HH.out.2.2.2.1.kept, Ch.refl _ _, O2, H0.out.1, fun i hi => .inl hi, fun i hi => by cases hi⟩⟩⟩
  case round =>
    obtain ⟨i, x, Q, A, cc, rfl, rfl, HI⟩ := hrel
    obtain ⟨hi, hC, hL⟩ := HI.out
    obtain ⟨hF, h12, hs, hG, hrd, hFl, hFm⟩ := HH.out
    obtain ⟨hG2, hce⟩ := hG.same hL.same
    obtain ⟨Oi, hPg, hOi, hv⟩ := hL.pg
    obtain ⟨d26, d2, d3, d0, hOp, hpl⟩ := pc0 hPg hG2.dead
    by_cases hx : x = 0
    · have hdr : F.drop i = [] := by
        cases hd : F.drop i with
        | nil => rfl
        | cons y r =>
          rw [hd] at hC
          have := hC.1
          have := hC.2.1
          omega
      have hiF : i = F.length := by
        have := congrArg List.length hdr
        simp at this; omega
      subst hx
      have HL := Lib.hid hL
      have HI2 := Lib.hid hiF
      clear hC hL hF h12 hs hG hrd hFl hFm hG2 hce hPg hOi hv hOp hpl hi hdr hiF d26 d2 d3 d0
      go_wp2_with fail
      go_ret2
      have hiF := HI2.out
      subst hiF
      have := HL.out
      rw [List.take_of_length_le (Nat.le_refl _)] at this
      exact ⟨A, cc, Q, rfl, this⟩
    · obtain ⟨r, hr⟩ := hC.head hx
      rw [hr] at hC
      obtain ⟨_, hx1, hx2, n, hcx, hn, hC2⟩ := hC
      have hil : i < F.length := by
        rcases Nat.lt_or_ge i F.length with h | h
        · exact h
        · rw [List.drop_of_length_le h] at hr; cases hr
      have hxF : x ∈ F := List.mem_of_mem_drop (i := i) (by rw [hr]; exact List.mem_cons_self ..)
      have hxi : F[i]? = some x := by
        have := congrArg List.head? hr
        simpa [List.head?_drop] using this
      have hr2 : F.drop (i + 1) = r := by
        have := congrArg List.tail hr
        simpa [List.tail_drop] using this
      have hFW : FsA wr O1 f S := hF.ch hL.ch h12
      have hxm : x < Q.now.many := by rw [hL.same.now]; exact hFm x hxF
      have hPa := hG2.page hPg hFW hs hxm (by have := hL.same.reads; omega)
      rw [hce, hcx] at hPa
      have hPa2 := hPa.mono (R' := fun e w' => ∃ g cg, e = .returned (.tuple #[.slice (some ⟨g, 0, none⟩) 508 cg, .int .i64 0]) ∧ Hid (PgA w' (fun k => (Oi k ∨ wr.heap.size ≤ k) ∧ k < w'.heap.size) f p nm (pgR Q x (c x)) ∧ Rd w' w'.heap.size 1 (some ⟨g, 0, none⟩) 508 (bys (frB n)) ∧ Ch Oi wr w' ∧ (Oi g ∨ wr.heap.size ≤ g) ∧ g < w'.heap.size ∧ 508 ≤ cg)) (by
        rintro e w' ⟨t, rfl, k1, k2, k3, k4⟩
        have k7 := k2.lt
        obtain ⟨g, cg, rfl, k5, k6, _⟩ := k2.rd2 (frB_len _)
        exact ⟨g, cg, rfl, Lib.hid ⟨k1.mono (fun i hi hl => ⟨hi, hl⟩), k5, k3, k4, k7, k6⟩⟩)
      have HPa := Lib.hid hPa2
      have hiM : i < P.now.many := by omega
      rw [hL.same.now] at d2
      obtain ⟨M, hM⟩ : ∃ M, M = P.now.many := ⟨_, rfl⟩
      rw [← hM] at hiM d2
      have hx0 : ¬ (x : Int) = 0 := by omega
      have HJ := Lib.hid (And.intro hL (And.intro hOi (And.intro hv (And.intro hxi (And.intro hr2 (And.intro hC2 (And.intro hn (And.intro hx2 (And.intro hil hce)))))))))
      clear hC2 hL hF h12 hs hG hrd hFl hFm hG2 hce hPg hOi hv hOp hpl hi hr hcx hil hxF hxi hr2 hFW hxm hPa hPa2 hn hx1 hx2 hM hx d26 d3 d0
      go_wp2_with fail
      with_reducible refine HPa.out.mono ?_
      rintro e w1 ⟨g, cg, rfl, H1⟩
      have hown1 : w1.ownsRow w.heap.size 3 1 (.slice A i cc) i (its (natI (F.take i))) := by
        have := own_ch HJ.out.1.own H1.out.2.2.1 (fun j hj => (HJ.out.2.2.1 j hj).2.2)
        rwa [List.length_take, Nat.min_eq_left (by have := HJ.out.2.2.2.2.2.2.2.2.1; omega)] at this
      have HO := Lib.hid hown1
      have HB := Lib.hid (show w.heap.size ≤ w1.heap.size by have := HJ.out.1.ch.size; have := H1.out.2.2.1.size; omega)
      have HN := Lib.hid (fun W (hr : Rd W W.heap.size 1 (some ⟨g, 0, none⟩) 508 (bys (frB n))) => by
        have := get_ok (some ⟨g, 0, none⟩) 508 cg 0 4 (frB n) W hr H1.out.2.2.2.2.2 (by show (0 : Int) + wid 4 ≤ 508; decide) (by omega)
        rw [show (wid 4).toNat = 4 by decide, frB_next HJ.out.2.2.2.2.2.2.1, show ((0 : Nat) : Int) = 0 from rfl] at this
        exact this)
      clear hown1
      go_wp2_with (with_reducible refine at_append ?_; go_loud ((apply ap_its (c := 1) (base := w.heap.size) (w0 := w1) (HO.out.alloc _) (Rd.oneI w1 3 (x : Int)) ((Below.refl _ _).alloc HB.out _) (by have := HB.out; simp; omega) (by have := HH.out.2.2.2.2.1; have := HJ.out.2.2.2.2.2.2.2.2.1; omega)); (case hs => kernel_rfl); (case hx => kernel_rfl); (case hw => kernel_rfl); intro v2 w2 o2 b2 g2 x2; obtain ⟨A2, c2, hv2, _, _⟩ := own_form o2; have HS := HJ.out.1.step (x := x) HJ.out.2.1 HJ.out.2.2.1 H1.out.1 H1.out.2.1 H1.out.2.2.1 H1.out.2.2.2.1 H1.out.2.2.2.2.1 g2 x2 (by rw [List.length_take, Nat.min_eq_left (by have := HJ.out.2.2.2.2.2.2.2.2.1; omega)]; exact o2) (HJ.out.1.same.step (by have := HJ.out.2.2.2.2.2.2.2.1; omega)); have HN2 := HN.out w2 HS.2; replace HN2 := Lib.hid HN2; replace HS := Lib.hid HS; clear o2 b2 g2 x2; subst hv2; try go_frame))
      with_reducible refine HN2.out.mono ?_
      rintro e w3 ⟨rfl, b3⟩
      have HS3 := Lib.hid (HS.out.1.below b3)
      clear b3
      go_wp2_with fail
      go_roundw
      case rel => exact ⟨i + 1, n, _, A2, c2, by rfl, by rfl, Lib.hid ⟨by have := HJ.out.2.2.2.2.2.2.2.2.1; omega, by rw [HJ.out.2.2.2.2.1]; exact HJ.out.2.2.2.2.2.1, by rw [take_step HJ.out.2.2.2.1]; exact HS3.out⟩⟩
      case measure => have := HJ.out.2.2.2.2.2.2.2.2.1; simp [slLen]; omega
end Go.Proofs.YtoadamkmabkldaaGreatDoor
