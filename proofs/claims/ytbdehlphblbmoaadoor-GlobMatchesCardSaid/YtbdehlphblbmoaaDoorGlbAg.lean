/- GlobStars. -/
import Derived.Test.YtbdehlphblbmoaaDoorGlbAf
namespace Go.Proofs.YtbdehlphblbmoaaDoor
open Go.RowKit
attribute [local go_sem ↓] Go.wp_at_zero Go.wp_at_succ

theorem ne47 (b : UInt8) : (b != 47) = decide (b.toNat ≠ 47) := by
  by_cases h : b = 47
  · subst h; rfl
  · have : b.toNat ≠ 47 := fun e => h (UInt8.toNat_inj.1 e)
    simp [h, this]
theorem slash_L : ∀ (n : Nat) (l : List UInt8), l.length ≤ n → (runesL l).all (fun x => x != 47) = l.all (fun b => b != 47)
  | 0, l, hn => by
    have : l = [] := List.eq_nil_of_length_eq_zero (by omega)
    subst this
    rfl
  | n + 1, [], _ => rfl
  | n + 1, a :: t, hn => by
    have hne : a :: t ≠ [] := by simp
    have hd := Lib.decodeL_N (a :: t)
    simp only [List.length_cons] at hn
    by_cases ha : a.toNat < 128
    · have e : Lib.decodeL (a :: t) = (a.toNat, 1) := by
        rw [hd]
        unfold Lib.decodeN
        rw [if_pos (by simpa using ha)]
        rfl
      rw [runesL_step _ hne, e]
      simp only [List.drop_succ_cons, List.drop_zero, List.all_cons]
      rw [slash_L n t (by omega), ne47]
      congr 1
      by_cases h : a.toNat = 47
      · rw [h]; rfl
      · have : ¬ ((a.toNat : Nat) : Int) = 47 := by omega
        simp [h, this]
    · have big : ∀ b : UInt8, 128 ≤ b.toNat → (b != 47) = true := fun b h => by rw [ne47]; simp; omega
      have bigr : ∀ k : Nat, 128 ≤ k → (((k : Nat) : Int) != 47) = true := fun k h => by
        have : ¬ ((k : Nat) : Int) = 47 := by omega
        simp [this]
      rw [runesL_step _ hne]
      rcases Lib.decodeN_shape (a :: t).length ((a :: t).getD 0 0).toNat ((a :: t).getD 1 0).toNat ((a :: t).getD 2 0).toNat ((a :: t).getD 3 0).toNat with ⟨c, _⟩ | ⟨c1, c2, c3, c4, e⟩ | ⟨c1, c2, c3, c4, c5, c6, e⟩ | ⟨c1, c2, c3, c4, c5, c6, c7, e⟩ | e
      · exact absurd c ha
      · rw [hd, e]
        simp only [List.all_cons]
        rcases t with _ | ⟨b, t⟩
        · simp at c2
        · simp only [List.length_cons] at hn
          simp only [List.getD_cons_succ, List.getD_cons_zero] at c3
          simp only [List.drop_succ_cons, List.drop_zero, List.all_cons]
          rw [slash_L n t (by omega), bigr _ c4, big a (by omega), big b (by omega)]
          rfl
      · rw [hd, e]
        simp only [List.all_cons]
        rcases t with _ | ⟨b, _ | ⟨c, t⟩⟩
        · simp at c2
        · simp at c2
        · simp only [List.length_cons] at hn
          simp only [List.getD_cons_succ, List.getD_cons_zero] at c3 c4
          simp only [List.drop_succ_cons, List.drop_zero, List.all_cons]
          rw [slash_L n t (by omega), bigr _ (by omega), big a (by omega), big b (by omega), big c (by omega)]
          simp only [Bool.true_and]
      · rw [hd, e]
        simp only [List.all_cons]
        rcases t with _ | ⟨b, _ | ⟨c, _ | ⟨d, t⟩⟩⟩
        · simp at c2
        · simp at c2
        · simp at c2
        · simp only [List.length_cons] at hn
          simp only [List.getD_cons_succ, List.getD_cons_zero] at c3 c4 c5
          simp only [List.drop_succ_cons, List.drop_zero, List.all_cons]
          rw [slash_L n t (by omega), bigr _ (by omega), big a (by omega), big b (by omega), big c (by omega), big d (by omega)]
          simp only [Bool.true_and]
      · rw [hd, e]
        simp only [List.drop_succ_cons, List.drop_zero, List.all_cons]
        rw [slash_L n t (by omega), bigr _ (by omega), big a (by omega)]
theorem runes_app : ∀ (rs : List Int) (t : List UInt8), (∀ r ∈ rs, okR r) → runesL (encL rs ++ t) = rs ++ runesL t
  | [], t, _ => rfl
  | r :: rs, t, h => by
    have hr := h r (by simp)
    have e : encL (r :: rs) = Lib.encodeRune r ++ encL rs := by unfold encL; rw [List.flatMap_cons]
    rw [e, List.append_assoc, runesL_step _ (enc_ne _ _), decode_enc r _ hr]
    simp only
    rw [List.drop_left, runes_app rs t (fun x hx => h x (by simp [hx]))]
    rw [List.cons_append]
    congr 1
    unfold okR at hr
    omega
theorem rnB_add {a b : ByteArray} (ha : Lib.validD a.data.toList = true) : rnB (a ++ b) = rnB a ++ rnB b := by
  rw [rnB_L, rnB_L b, show (a ++ b).data.toList = a.data.toList ++ b.data.toList from by simp [ByteArray.data_append], ← enc_back' ha, runes_app _ _ (rnB_ok a)]
theorem quoted2_yes (s : ByteArray) (w : World) (hs : s.size ≤ 40) (hv : Lib.validD s.data.toList = true) (hT : UT w) :
    Calls Tryd.prog 10 #[.string (⟨(encL (quoteR (rnB s))).toArray⟩ ++ ⟨#[42, 42]⟩)] w fun e w' => ∃ g, e = .returned (.tuple #[.pointer (some ⟨g, 0, none⟩), .int .i64 0]) ∧ GlM w' w'.heap.size g ((rnB s).map .lit ++ [.stars true]) ∧ w.heap.size ≤ g ∧ Below w.heap.size w w' := by
  have hq := quoteR_ok (rnB_ok s)
  have hq2 : ∀ r ∈ quoteR (rnB s) ++ [42, 42], okR r := by
    intro r hr
    rw [List.mem_append] at hr
    rcases hr with hr | hr
    · exact hq r hr
    · simp at hr; subst hr; exact .inl ⟨by omega, by omega⟩
  have he : ((⟨(encL (quoteR (rnB s))).toArray⟩ ++ ⟨#[42, 42]⟩ : ByteArray)) = ⟨(encL (quoteR (rnB s) ++ [42, 42])).toArray⟩ := by
    rw [encL_app, show encL [42, 42] = [42, 42] from by kernel_rfl, show (⟨#[42, 42]⟩ : ByteArray) = ⟨([42, 42] : List UInt8).toArray⟩ from rfl, ByteArray.mk_append_mk]
  rw [he]
  have hl : (encL (rnB s)).length = s.size := by rw [enc_back' hv, Array.length_toList]; rfl
  have hz : (⟨(encL (quoteR (rnB s) ++ [42, 42])).toArray⟩ : ByteArray).size = (encL (quoteR (rnB s))).length + 2 := by
    show (Array.size _) = _
    rw [List.size_toArray, encL_app, List.length_append]
    rfl
  refine new_yes _ _ w ?_ (valid_enc _ hq2) ?_ hT
  · rw [hz]; have := quote_len (rnB s); omega
  · rw [rnB_enc hq2, hz]
    exact new_quoted2 _ _ (by have := (encL_len (quoteR (rnB s))).1; omega)
theorem quoted2_head (s : ByteArray) (g B : Nat) (w : World) (hv : Lib.validD s.data.toList = true) (hs : s.size ≤ 50) (h : GlM w B g ((rnB s).map .lit ++ [.stars true])) (hB : B ≤ w.heap.size) :
    Calls Tryd.prog 15 #[.pointer (some ⟨g, 0, none⟩)] w fun e w' => e = .returned (.tuple #[.string s, .bool false]) ∧ Below w.heap.size w w' := by
  have := head_any g B _ w h hB (fun r hr => by
    rw [List.mem_append] at hr
    rcases hr with hr | hr
    · rw [List.mem_map] at hr
      obtain ⟨x, hx, he⟩ := hr
      injection he with he
      subst he
      exact rnB_ok s _ hx
    · simp at hr) (by rw [List.length_append, List.length_map]; have := rnB_le s; simp; omega)
  rw [head_lits_stars, enc_back hv] at this
  exact this
theorem quoted2_match (s t : ByteArray) (g B : Nat) (w : World) (h : GlM w B g ((rnB s).map .lit ++ [.stars true])) (hB : B ≤ w.heap.size) (hs : s.size ≤ 40) (ht : t.size ≤ 300) (hv : Lib.validD s.data.toList = true) :
    Calls Tryd.prog 11 #[.pointer (some ⟨g, 0, none⟩), .string (s ++ t)] w fun e w' => e = .returned (.bool true) ∧ Below w.heap.size w w' := by
  have := match_any g B _ (s ++ t) w h hB (by rw [ByteArray.size_append]; omega)
  rwa [rnB_add hv, mt_lits_stars] at this
theorem star_match (t : ByteArray) (g B : Nat) (w : World) (h : GlM w B g [.stars false]) (hB : B ≤ w.heap.size) (ht : t.size ≤ 300) :
    Calls Tryd.prog 11 #[.pointer (some ⟨g, 0, none⟩), .string t] w fun e w' => e = .returned (.bool (t.data.toList.all (fun b => b != 47))) ∧ Below w.heap.size w w' := by
  have := match_any g B _ t w h hB (by omega)
  rwa [mt_stars1, rnB_L, slash_L _ _ (Nat.le_refl _)] at this
theorem stars_match (t : ByteArray) (g B : Nat) (w : World) (h : GlM w B g [.stars true]) (hB : B ≤ w.heap.size) (ht : t.size ≤ 300) :
    Calls Tryd.prog 11 #[.pointer (some ⟨g, 0, none⟩), .string t] w fun e w' => e = .returned (.bool true) ∧ Below w.heap.size w w' := by
  have := match_any g B _ t w h hB (by omega)
  rwa [mt_stars2] at this
/-- Is there a slash among the first k bytes? -/
def slashTo (t : ByteArray) (k : Nat) : Bool := (t.data.toList.take k).any (fun b => b == 47)
theorem slashTo_step (t : ByteArray) (k : Nat) (hk : k < t.size) : slashTo t (k + 1) = (slashTo t k || ((t[k].toNat : Nat) : Int) == 47) := by
  unfold slashTo
  have hl : k < t.data.toList.length := by rw [Array.length_toList]; exact hk
  rw [List.take_succ_eq_append_getElem hl, List.any_append]
  congr 1
  simp only [List.any_cons, List.any_nil, Bool.or_false]
  have he : t.data.toList[k] = t[k] := by simp; rfl
  rw [he]
  generalize t[k] = x
  rw [Bool.eq_iff_iff]
  simp only [beq_iff_eq]
  constructor
  · intro h; rw [h]; rfl
  · intro h; apply UInt8.toNat_inj.1; have : x.toNat = 47 := by omega
    rw [this]; rfl
theorem slashTo_all (t : ByteArray) : t.data.toList.all (fun b => b != 47) = !slashTo t t.size := by
  unfold slashTo
  rw [List.take_of_length_le (by rw [Array.length_toList]; exact Nat.le_refl _), List.not_any_eq_all_not]
  rfl
theorem globStars_laid (W : World) (h : laidMet Tryd.prog Rows.globStarsRow.laid W) : UT W := ut_of h
set_option maxHeartbeats 4000000 in
set_option maxRecDepth 100000 in
theorem globStars_walk (a b : ByteArray) (w : World) (_ : a.size ≤ maxLen) (_ : b.size ≤ maxLen) (hT : UT w) :
    Calls Tryd.prog 8 #[.string a, .string b] w fun e w' => e = .returned (.bool true) ∧ Below w.heap.size w w' := by
  have H1 := Lib.hid (gwakes_any w hT)
  by_cases ha : 40 < a.size
  · have ha' : (40 : Int) < (a.size : Int) := by omega
    clear hT
    go_enter Tryd.func8, Tryd.ntmps8
    go_wp2_with fail
    with_reducible refine H1.out.mono ?_
    rintro e w1 ⟨rfl, b1⟩
    have B1 := Lib.hid b1
    clear b1 H1
    go_wp2_with fail
    go_ret
    exact ⟨rfl, B1.out⟩
  have ha' : ¬ (40 : Int) < (a.size : Int) := by omega
  by_cases hb : 300 < b.size
  · have hb' : (300 : Int) < (b.size : Int) := by omega
    clear hT
    go_enter Tryd.func8, Tryd.ntmps8
    go_wp2_with fail
    with_reducible refine H1.out.mono ?_
    rintro e w1 ⟨rfl, b1⟩
    have B1 := Lib.hid b1
    clear b1 H1
    go_wp2_with fail
    go_ret
    exact ⟨rfl, B1.out⟩
  have hb' : ¬ (300 : Int) < (b.size : Int) := by omega
  have hfld := fld_is
  have RA := Lib.hid (read_is a (by omega))
  have Ha := Lib.hid (show a.size ≤ 40 from by omega)
  have Hb := Lib.hid (show b.size ≤ 300 from by omega)
  have HT := Lib.hid hT
  clear ha hb hT
  go_enter Tryd.func8, Tryd.ntmps8
  go_wp2_with fail
  with_reducible refine H1.out.mono ?_
  rintro e w1 ⟨rfl, b1⟩
  obtain ⟨c1, w2, q1, q2, q3, q4⟩ := conv_read a w1
  have Q2 := Lib.hid q2
  have Q3 := Lib.hid q3
  have B2 := Lib.hid (b1.trans (q4.mono b1.size))
  clear b1 H1 q2 q3 q4
  go_wp2_with fail
  with_reducible refine (RA.out w2 _ _ Q2.out Q3.out).mono ?_
  rintro e w3 ⟨x1, rfl, b3⟩
  have B3 := Lib.hid (B2.out.trans (b3.mono B2.out.size))
  clear b3 q1 RA B2 Q2 Q3
  by_cases hva : Lib.validD a.data.toList = true
  case neg =>
    have hva' : Lib.validD a.data.toList = false := by simpa using hva
    rw [hva']
    clear hva
    go_wp2_with fail
    go_ret
    exact ⟨rfl, B3.out⟩
  rw [hva]
  have Hva := Lib.hid hva
  clear hva
  have HN := Lib.hid (new_yes ⟨#[42, 42]⟩ _ w3 (by decide) (by kernel_rfl) pat_ss (HT.out.below B3.out))
  go_wp2_with fail
  with_reducible refine HN.out.mono ?_
  rintro e w4 ⟨g1, rfl, m4, _, b4⟩
  have M4 := Lib.hid m4
  have B4 := Lib.hid (B3.out.trans (b4.mono B3.out.size))
  clear m4 b4 HN B3
  have HN := Lib.hid (new_yes ⟨#[42]⟩ _ w4 (by decide) (by kernel_rfl) pat_s (HT.out.below B4.out))
  go_wp2_with fail
  with_reducible refine HN.out.mono ?_
  rintro e w5 ⟨g2, rfl, m5, _, b5⟩
  have M5 := Lib.hid (And.intro m5 (M4.out.bl (Nat.le_refl _) b5))
  have hz5 := b5.size
  have B5 := Lib.hid (B4.out.trans (b5.mono B4.out.size))
  clear m5 b5 HN B4 M4
  have HQ := Lib.hid (quote_any a w5 (by have := Ha.out; omega))
  have hqs : (⟨(encL (quoteR (rnB a))).toArray⟩ : ByteArray).size + 2 ≤ 9223372036854775807 := by
    have h1 := quote_len (rnB a)
    rw [enc_back' Hva.out] at h1
    have h4 : a.data.toList.length = a.data.size := Array.length_toList
    have h2 : a.data.size ≤ 40 := Ha.out
    have h3 : (⟨(encL (quoteR (rnB a))).toArray⟩ : ByteArray).size = (encL (quoteR (rnB a))).length := List.size_toArray
    rw [h3]
    omega
  go_wp2_with fail
  with_reducible refine HQ.out.mono ?_
  rintro e w6 ⟨rfl, b6⟩
  have B6 := Lib.hid (B5.out.trans (b6.mono B5.out.size))
  have M6 := Lib.hid (And.intro (M5.out.1.bl (Nat.le_refl _) b6) (M5.out.2.bl hz5 b6))
  have hz6 := b6.size
  clear b6 HQ B5 M5
  have HN := Lib.hid (quoted2_yes a w6 Ha.out Hva.out (HT.out.below B6.out))
  generalize (⟨(encL (quoteR (rnB a))).toArray⟩ : ByteArray) = qa at HN hqs ⊢
  go_wp2_with fail
  with_reducible refine HN.out.mono ?_
  rintro e w7 ⟨g3, rfl, m7, _, b7⟩
  have M7 := Lib.hid (And.intro m7 (And.intro (M6.out.1.bl hz6 b7) (M6.out.2.bl (Nat.le_trans hz5 hz6) b7)))
  have hz7 := b7.size
  have B7 := Lib.hid (B6.out.trans (b7.mono B6.out.size))
  clear m7 b7 HN B6 M6 hqs
  go_wp2_with fail
  go_loopw [11, 59] (fun s i wr => ∃ k : Nat, i = .int .i64 (k : Int) ∧ k ≤ b.size ∧ s = .bool (slashTo b k) ∧ wr = w7) (fun _ i _ => b.size - (intOf i).toNat)
  case atStart => exact ⟨0, rfl, Nat.zero_le _, rfl, rfl⟩
  case round =>
    obtain ⟨k, rfl, hk, rfl, hw⟩ := hrel
    by_cases hlt : k < b.size
    · have hlt' : (k : Int) < (b.size : Int) := by omega
      have hst := slashTo_step b k hlt
      have q1 : IntKind.i64.wrap ((k : Int) + 1) = (k : Int) + 1 := IntWalk.i64_in _ (by omega)
      rcases hs : slashTo b k with _ | _
      · rw [hs] at hst
        have HS := Lib.hid hst
        clear hst
        go_wp2_with fail
        go_roundw
        case rel => exact ⟨k + 1, by go_num, by omega, by rw [HS.out]; simp, by first | trivial | exact hw⟩
        case measure => simp [intOf]; omega
      · rw [hs] at hst
        have HS := Lib.hid hst
        clear hst
        go_wp2_with fail
        go_roundw
        case rel => exact ⟨k + 1, by go_num, by omega, by rw [HS.out]; simp, by first | trivial | exact hw⟩
        case measure => simp [intOf]; omega
    · have hlt' : ¬ (k : Int) < (b.size : Int) := by omega
      have hkb : k = b.size := by omega
      have HA := Lib.hid (slashTo_all b)
      rw [hkb]
      generalize slashTo b b.size = sl at HA ⊢
      subst hw
      clear hkb
      have HH := Lib.hid (quoted2_head a g3 _ wr Hva.out (by have := Ha.out; omega) M7.out.1 (Nat.le_refl _))
      go_wp2_with fail
      with_reducible refine HH.out.mono ?_
      rintro e w8 ⟨rfl, b8⟩
      have M8 := Lib.hid (And.intro (M7.out.1.bl (Nat.le_refl _) b8) (And.intro (M7.out.2.1.bl (Nat.le_trans hz6 hz7) b8) (M7.out.2.2.bl (Nat.le_trans hz5 (Nat.le_trans hz6 hz7)) b8)))
      have hz8 := b8.size
      have B8 := Lib.hid (B7.out.trans (b8.mono B7.out.size))
      clear b8 HH
      have HM := Lib.hid (stars_match b g1 _ w8 M8.out.2.2 (by omega) Hb.out)
      go_wp2_with fail
      with_reducible refine HM.out.mono ?_
      rintro e w9 ⟨rfl, b9⟩
      have M9 := Lib.hid (And.intro (M8.out.1.bl hz8 b9) (M8.out.2.1.bl (by omega) b9))
      have hz9 := b9.size
      have B9 := Lib.hid (B8.out.trans (b9.mono B8.out.size))
      clear b9 HM B8 M8
      have HM := Lib.hid (star_match b g2 _ w9 M9.out.2 (by omega) Hb.out)
      rw [HA.out] at HM
      go_wp2_with fail
      with_reducible refine HM.out.mono ?_
      rintro e w10 ⟨rfl, b10⟩
      have M10 := Lib.hid (M9.out.1.bl (by omega) b10)
      have hz10 := b10.size
      have B10 := Lib.hid (B9.out.trans (b10.mono B9.out.size))
      clear b10 HM B9 M9 HA
      have hab : a.size + b.size ≤ 9223372036854775807 := by have := Ha.out; have := Hb.out; omega
      have HM := Lib.hid (quoted2_match a b g3 _ w10 M10.out (by omega) Ha.out Hb.out Hva.out)
      cases sl
      all_goals
        go_wp2_with fail
        with_reducible refine HM.out.mono ?_
        rintro e w11 ⟨rfl, b11⟩
        have B11 := Lib.hid (B10.out.trans (b11.mono B10.out.size))
        clear b11 HM B10 M10
        go_wp2_with fail
        go_ret
        exact ⟨rfl, B11.out⟩
end Go.Proofs.YtbdehlphblbmoaaDoor
