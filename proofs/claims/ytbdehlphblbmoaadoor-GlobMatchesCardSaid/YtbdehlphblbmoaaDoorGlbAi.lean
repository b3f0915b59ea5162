/- GlobHeads. -/
import Derived.Test.YtbdehlphblbmoaaDoorGlbAg
import Derived.Test.YtbdehlphblbmoaaDoorFrS
namespace Go.Proofs.YtbdehlphblbmoaaDoor
open Go.RowKit
attribute [local go_sem ↓] Go.wp_at_zero Go.wp_at_succ

theorem newR_count : ∀ (n : Nat) (g : List PtP) (l : List Int) {q : List PtP}, newR n g l = some q → q.length ≤ g.length + l.length
  | n, g, [], q, h => by
    rw [newR_end] at h
    injection h with h
    subst h
    simp
  | 0, g, c :: l, q, h => by rw [newR] at h; cases h
  | n + 1, g, c :: l, q, h => by
    cases hp : partR (c :: l) with
    | none => rw [newR_bad hp] at h; cases h
    | some pk =>
      obtain ⟨p, k⟩ := pk
      rw [newR_some hp] at h
      have h1 := newR_count n _ _ h
      have h2 := partR_less hp
      simp only [List.length_append, List.length_cons, List.length_nil] at h1 h2 ⊢
      omega
theorem headR_len : ∀ ps : List PtP, (headR ps).1.length ≤ ps.length
  | [] => by simp [headR]
  | .lit r :: ps => by rw [headR]; have := headR_len ps; simp only [List.length_cons]; omega
  | .one :: _ => by simp [headR]
  | .stars _ :: _ => by simp [headR]
  | .cls _ _ :: _ => by simp [headR]
/-- What is known of a pattern that New took. -/
structure PtK (p : ByteArray) (ps : List PtP) : Prop where
  ok : ∀ r, PtP.lit r ∈ ps → okR r
  len : ps.length ≤ 100
theorem ptK {p : ByteArray} {ps : List PtP} (h : newR p.size [] (rnB p) = some ps) (hs : p.size ≤ 100) : PtK p ps := by
  refine ⟨fun r hr => ?_, ?_⟩
  · exact rnB_ok p r (newR_mem _ _ _ (rnB p) h (fun r hr => by simp at hr) (fun _ hx => hx) r hr)
  · have h1 := newR_count _ _ _ h
    have h2 := rnB_le p
    simp only [List.length_nil] at h1
    omega
/-- The head as a text. -/
def hdT (ps : List PtP) : ByteArray := ⟨(encL (headR ps).1).toArray⟩
theorem PtK.head {p : ByteArray} {ps : List PtP} (h : PtK p ps) : (∀ r ∈ (headR ps).1, okR r) ∧ (hdT ps).size ≤ 400 := by
  refine ⟨fun r hr => h.ok r (head_in ps r hr), ?_⟩
  have h1 := (encL_len (headR ps).1).2
  have h2 := headR_len ps
  have h3 := h.len
  have h4 : (hdT ps).size = (encL (headR ps).1).length := List.size_toArray
  omega
/-- What matches begins with the head. -/
theorem mt_text {p : ByteArray} {ps : List PtP} (_ : PtK p ps) {s : ByteArray} (hv : Lib.validD s.data.toList = true) (hm : mt ps (rnB s) = true) :
    (hdT ps).size ≤ s.size ∧ s.extract 0 (hdT ps).size = hdT ps ∧ ((headR ps).2 = true → s = hdT ps) := by
  obtain ⟨t, h1, h2⟩ := mt_head ps (rnB s) hm
  have h3 := enc_back hv
  rw [h1, encL_app] at h3
  have h4 : s = hdT ps ++ ⟨(encL t).toArray⟩ := by
    rw [← h3]
    unfold hdT
    rw [ByteArray.mk_append_mk]
  refine ⟨by rw [h4, ByteArray.size_append]; omega, ?_, fun ha => ?_⟩
  · rw [h4]
    apply ByteArray.ext
    simp [ByteArray.data_extract, ByteArray.data_append]
  · rw [h4, h2 ha]
    apply ByteArray.ext
    simp [encL]
theorem globHeads_laid (W : World) (h : laidMet Tryd.prog Rows.globHeadsRow.laid W) : UT W := ut_of h
set_option maxHeartbeats 4000000 in
set_option maxRecDepth 100000 in
theorem globHeads_walk (p : ByteArray) (A : Option Addr) (n c : Nat) (l : List ByteArray) (w : World) (_ : p.size ≤ maxLen) (hr : Rd w w.heap.size 1 A n (sts l)) (hnc : n ≤ c) (_ : c ≤ maxLen) (hT : UT w) :
    Calls Tryd.prog 5 #[.string p, .slice A n c] w fun e w' => e = .returned (.bool true) ∧ Below w.heap.size w w' := by
  have H1 := Lib.hid (gwakes_any w hT)
  have HT := Lib.hid hT
  have Hr := Lib.hid hr
  clear hT hr
  by_cases hp : 300 < p.size
  · have hp' : (300 : Int) < (p.size : Int) := by omega
    go_enter Tryd.func5, Tryd.ntmps5
    go_wp2_with fail
    with_reducible refine H1.out.mono ?_
    rintro e w1 ⟨rfl, b1⟩
    have B1 := Lib.hid b1
    clear b1 H1
    go_wp2_with fail
    go_ret
    exact ⟨rfl, B1.out⟩
  have hp' : ¬ (300 : Int) < (p.size : Int) := by omega
  by_cases hn : 20 < n
  · have hn' : (20 : Int) < (n : Int) := by omega
    go_enter Tryd.func5, Tryd.ntmps5
    go_wp2_with fail
    with_reducible refine H1.out.mono ?_
    rintro e w1 ⟨rfl, b1⟩
    have B1 := Lib.hid b1
    clear b1 H1
    go_wp2_with fail
    go_ret
    exact ⟨rfl, B1.out⟩
  have hn' : ¬ (20 : Int) < (n : Int) := by omega
  have HN1 := Lib.hid (fun w hT => new_any p w (by omega) hT)
  go_enter Tryd.func5, Tryd.ntmps5
  go_wp2_with fail
  with_reducible refine H1.out.mono ?_
  rintro e w1 ⟨rfl, b1⟩
  have B1 := Lib.hid b1
  have HN := Lib.hid (HN1.out w1 (HT.out.below b1))
  clear b1 H1 HN1
  go_wp2_with fail
  with_reducible refine HN.out.mono ?_
  rintro e w2 ⟨b2, ⟨_, rfl⟩ | ⟨_, _, rfl⟩ | ⟨hs, _, g, ps, hps, rfl, m2, _⟩⟩
  · have B2 := Lib.hid (B1.out.trans (b2.mono B1.out.size))
    clear b2 HN B1
    go_wp2_with fail
    go_ret
    exact ⟨rfl, B2.out⟩
  · have B2 := Lib.hid (B1.out.trans (b2.mono B1.out.size))
    clear b2 HN B1
    go_wp2_with fail
    go_ret
    exact ⟨rfl, B2.out⟩
  have B2 := Lib.hid (B1.out.trans (b2.mono B1.out.size))
  have HK := Lib.hid (ptK hps hs)
  have hoH := Lib.hid HK.out.head
  have HH := Lib.hid (show Calls Tryd.prog 15 #[.pointer (some ⟨g, 0, none⟩)] w2 fun e w' => e = .returned (.tuple #[.string (hdT ps), .bool (headR ps).2]) ∧ Below w2.heap.size w2 w' from head_any g _ ps w2 m2 (Nat.le_refl _) HK.out.ok (by have := HK.out.len; omega))
  have M2 := Lib.hid m2
  clear m2 b2 HN B1 hps hs
  have HE := Lib.hid (fun W (h : GlM W w2.heap.size g ps) (hB : w2.heap.size ≤ W.heap.size) (ha : (headR ps).2 = true) => match_any g _ ps (hdT ps) W h hB (by have := hoH.out.2; omega))
  have HO := Lib.hid (fun (ha : (headR ps).2 = true) => (show mt ps (rnB (hdT ps)) = true from by unfold hdT; rw [rnB_enc hoH.out.1]; exact mt_own ps ha))
  have HX := Lib.hid (fun (s : ByteArray) (hv : Lib.validD s.data.toList = true) (hm : mt ps (rnB s) = true) => mt_text HK.out hv hm)
  obtain ⟨H, hH⟩ : ∃ H, hdT ps = H := ⟨_, rfl⟩
  obtain ⟨al, hal⟩ : ∃ al, (headR ps).2 = al := ⟨_, rfl⟩
  rw [hH] at HH HE HO hoH HX
  rw [hal] at HH HE HO HX
  clear hH hal
  go_wp2_with fail
  with_reducible refine HH.out.mono ?_
  rintro e w3 ⟨rfl, b3⟩
  have M3 := Lib.hid (M2.out.bl (Nat.le_refl _) b3)
  have hz3 := b3.size
  have B3 := Lib.hid (B2.out.trans (b3.mono B2.out.size))
  clear b3 HH B2 M2
  go_wp2_with fail
  go_loopw [35] (fun i wr => ∃ k : Nat, i = .int .i64 (k : Int) ∧ k ≤ n ∧ Hid (GlM wr w2.heap.size g ps ∧ w2.heap.size ≤ wr.heap.size ∧ Below w.heap.size w wr)) (fun i _ => n - (intOf i).toNat)
  case atStart => exact ⟨0, rfl, Nat.zero_le _, Lib.hid ⟨M3.out, hz3, B3.out⟩⟩
  case round =>
    obtain ⟨k, rfl, hk, HI⟩ := hrel
    by_cases hlt : k < n
    · obtain ⟨b, o, u, rfl, hb, hu, hc⟩ := (Hr.out.below HI.out.2.2 (Nat.le_refl _)).at_ hlt
      simp only [sts, List.getElem?_map, Option.map_eq_some_iff] at hu
      obtain ⟨s, hs, rfl⟩ := hu
      have q1 : IntKind.i64.wrap ((k : Int) + 1) = (k : Int) + 1 := IntWalk.i64_in _ (by omega)
      clear hs
      by_cases hz : 300 < s.size
      · have hz' : (300 : Int) < (s.size : Int) := by omega
        go_wp2_with fail
        go_ret
        exact ⟨rfl, HI.out.2.2⟩
      have hz' : ¬ (300 : Int) < (s.size : Int) := by omega
      have Hz := Lib.hid hz
      clear hz
      obtain ⟨c1, wa, r1, r2, r3, r4⟩ := conv_read s wr
      have RA := Lib.hid (read_is s (by have := Hz.out; omega) wa _ _ r2 r3)
      have Ba := Lib.hid (HI.out.2.2.trans (r4.mono HI.out.2.2.size))
      have Ma := Lib.hid (And.intro (HI.out.1.bl HI.out.2.1 r4) (Nat.le_trans HI.out.2.1 r4.size))
      have hfld := fld_is
      clear r2 r3 r4
      go_wp2_with fail
      with_reducible refine RA.out.mono ?_
      rintro e wb ⟨x1, rfl, b4⟩
      have Bb := Lib.hid (Ba.out.trans (b4.mono Ba.out.size))
      have Mb := Lib.hid (And.intro (Ma.out.1.bl Ma.out.2 b4) (Nat.le_trans Ma.out.2 b4.size))
      clear b4 RA Ba Ma r1
      by_cases hv : Lib.validD s.data.toList = true
      case neg =>
        have hv' : Lib.validD s.data.toList = false := by simpa using hv
        rw [hv']
        clear hv
        go_wp2_with fail
        go_ret
        exact ⟨rfl, Bb.out⟩
      rw [hv]
      have HM := Lib.hid (match_any g _ ps s wb Mb.out.1 Mb.out.2 (by have := Hz.out; omega))
      obtain ⟨mb, hmb⟩ : ∃ mb, mt ps (rnB s) = mb := ⟨_, rfl⟩
      have hx := HX.out s hv
      rw [hmb] at HM hx
      clear hmb hv
      cases mb
      · clear hx
        go_wp2_with fail
        with_reducible refine HM.out.mono ?_
        rintro e wc ⟨rfl, b5⟩
        have Bc := Lib.hid (Bb.out.trans (b5.mono Bb.out.size))
        have Mc := Lib.hid (And.intro (Mb.out.1.bl Mb.out.2 b5) (Nat.le_trans Mb.out.2 b5.size))
        clear b5 HM Bb Mb
        go_wp2_with fail
        go_roundw
        case rel => exact ⟨k + 1, by go_num, by omega, Lib.hid ⟨Mc.out.1, Mc.out.2, Bc.out⟩⟩
        case measure => simp [intOf]; omega
      · obtain ⟨x1, x2, x3⟩ := hx rfl
        have x1' : ¬ (s.size : Int) < (H.size : Int) := by omega
        have X3 := Lib.hid x3
        clear x3 hx
        cases al
        · go_wp2_with fail
          with_reducible refine HM.out.mono ?_
          rintro e wc ⟨rfl, b5⟩
          have Bc := Lib.hid (Bb.out.trans (b5.mono Bb.out.size))
          have Mc := Lib.hid (And.intro (Mb.out.1.bl Mb.out.2 b5) (Nat.le_trans Mb.out.2 b5.size))
          clear b5 HM Bb Mb
          go_wp2_with fail
          go_roundw
          case rel => exact ⟨k + 1, by go_num, by omega, Lib.hid ⟨Mc.out.1, Mc.out.2, Bc.out⟩⟩
          case measure => simp [intOf]; omega
        · have hsH := X3.out rfl
          subst hsH
          go_wp2_with fail
          with_reducible refine HM.out.mono ?_
          rintro e wc ⟨rfl, b5⟩
          have Bc := Lib.hid (Bb.out.trans (b5.mono Bb.out.size))
          have Mc := Lib.hid (And.intro (Mb.out.1.bl Mb.out.2 b5) (Nat.le_trans Mb.out.2 b5.size))
          clear b5 HM Bb Mb
          go_wp2_with fail
          go_roundw
          case rel => exact ⟨k + 1, by go_num, by omega, Lib.hid ⟨Mc.out.1, Mc.out.2, Bc.out⟩⟩
          case measure => simp [intOf]; omega
    · have hkn : ¬ (k : Int) < (n : Int) := by omega
      cases al
      · go_wp2_with fail
        go_ret
        exact ⟨rfl, HI.out.2.2⟩
      · have HM := Lib.hid (HE.out wr HI.out.1 HI.out.2.1 rfl)
        rw [HO.out rfl] at HM
        go_wp2_with fail
        with_reducible refine HM.out.mono ?_
        rintro e wb ⟨rfl, b4⟩
        have Bb := Lib.hid (HI.out.2.2.trans (b4.mono HI.out.2.2.size))
        clear b4 HM
        go_wp2_with fail
        go_ret
        exact ⟨rfl, Bb.out⟩
end Go.Proofs.YtbdehlphblbmoaaDoor
