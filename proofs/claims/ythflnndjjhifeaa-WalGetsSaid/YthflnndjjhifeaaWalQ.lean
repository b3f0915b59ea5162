/- Plain facts on batches: what is put is read again, whatever is behind; no beginning of it is. -/
import Derived.Test.YthflnndjjhifeaaWalP
namespace Go.Proofs.Ythflnndjjhifeaa

/-- Each piece has one number. -/
def oneNo (ls : List (List Int × List UInt8)) : Prop := ∀ p ∈ ls, p.1.length = 1
theorem wbody_app (a b : List (List Int × List UInt8)) : wbody (a ++ b) = wbody a ++ wbody b := by simp [wbody]
theorem ris_fits : ∀ (ns : List Int) (y : Int), risB y ns = true → ∀ z ∈ ns, 0 ≤ z ∧ z < 16777216
  | [], _, _, z, hz => by cases hz
  | x :: r, y, h, z, hz => by
    unfold risB at h
    simp only [Bool.and_eq_true] at h
    rcases List.mem_cons.1 hz with rfl | hz
    · have := h.1.1
      simp [fitsB] at this
      exact this
    · exact ris_fits r x h.2 z hz
theorem ok_parts {ls : List (List Int × List UInt8)} (h : walOk ls = true) : ls.length ≤ 4096 ∧ risB (-1) (nosOf ls) = true ∧ ∀ p ∈ ls, p.2.length = 512 := by
  unfold walOk at h
  simp only [Bool.and_eq_true, decide_eq_true_eq, List.all_eq_true] at h
  exact ⟨h.1.1, h.1.2, h.2⟩
theorem walB_len {ls : List (List Int × List UInt8)} (h : walOk ls = true) : (walB ls).length = 12 + 516 * ls.length := by
  have := wbody_len ls (ok_parts h).2.2
  unfold walB whead
  simp only [List.length_append, leB_len, this]
  have : wmark.length = 4 := rfl
  omega
theorem whead_len {ls : List (List Int × List UInt8)} (h : walOk ls = true) : (whead ls).length = 8 + 516 * ls.length := by
  have := wbody_len ls (ok_parts h).2.2
  unfold whead
  simp only [List.length_append, leB_len, this]
  have : wmark.length = 4 := rfl
  omega
theorem drop_into (a b c : List UInt8) (k m : Nat) (hk : a.length = k) (hm : b.length = m) : ((a ++ (b ++ c)).drop k).take m = b := by
  rw [List.drop_append_of_le_length (by omega), List.drop_of_length_le (by omega), List.nil_append, List.take_append_of_le_length (by omega), List.take_of_length_le (by omega)]
theorem piece_back {ls : List (List Int × List UInt8)} (h : walOk ls = true) (h1 : oneNo ls) (t : List UInt8) (i : Nat) (p : List Int × List UInt8) (hp : ls[i]? = some p) : piece (whead ls ++ t) i = p := by
  obtain ⟨_, hr, h5⟩ := ok_parts h
  have hmem := List.mem_of_getElem? hp
  have hi : i < ls.length := by
    rcases Nat.lt_or_ge i ls.length with h | h
    · exact h
    · rw [List.getElem?_eq_none h] at hp; cases hp
  obtain ⟨zs, m⟩ := p
  obtain ⟨x, rfl⟩ : ∃ x, zs = [x] := by
    have := h1 _ hmem
    match zs, this with
    | [x], _ => exact ⟨x, rfl⟩
  have hx := ris_fits _ _ hr x (by unfold nosOf; exact List.mem_map.2 ⟨_, hmem, rfl⟩)
  have hm : m.length = 512 := h5 _ hmem
  have hsplit : wbody ls = wbody (ls.take i) ++ (leB x 4 ++ (m ++ wbody (ls.drop (i + 1)))) := by
    have e : ls = ls.take i ++ ([x], m) :: ls.drop (i + 1) := by
      have e2 := List.take_append_drop i ls
      rw [List.drop_eq_getElem_cons hi] at e2
      have e3 : ls[i] = ([x], m) := by rw [List.getElem?_eq_getElem hi] at hp; injection hp
      rw [e3] at e2
      exact e2.symm
    conv => lhs; rw [e, wbody_app]
    simp [wbody]
  have hlen : (wbody (ls.take i)).length = 516 * i := by
    rw [wbody_len _ (fun q hq => h5 q (List.mem_of_mem_take hq)), List.length_take]
    congr 1
    omega
  have hw : wmark.length = 4 := rfl
  have hall : whead ls ++ t = (wmark ++ leB (ls.length : Int) 4 ++ wbody (ls.take i)) ++ (leB x 4 ++ (m ++ (wbody (ls.drop (i + 1)) ++ t))) := by
    unfold whead
    rw [hsplit]
    simp
  have hall2 : whead ls ++ t = (wmark ++ leB (ls.length : Int) 4 ++ wbody (ls.take i) ++ leB x 4) ++ (m ++ (wbody (ls.drop (i + 1)) ++ t)) := by
    rw [hall]; simp
  unfold piece num4
  congr 1
  · rw [hall, drop_into _ _ _ _ _ (by simp [leB_len, hlen, hw]; omega) (leB_len _ _), leN_leB]
    congr 1
    have : (256 : Int) ^ 4 = 4294967296 := by decide
    rw [this]
    omega
  · rw [hall2, drop_into _ _ _ _ _ (by simp [leB_len, hlen, hw]; omega) hm]
theorem pieces_back {ls : List (List Int × List UInt8)} (h : walOk ls = true) (h1 : oneNo ls) (t : List UInt8) : pieces (whead ls ++ t) ls.length = ls := by
  refine List.ext_getElem? fun i => ?_
  unfold pieces
  rw [List.getElem?_map]
  rcases Nat.lt_or_ge i ls.length with hi | hi
  · rw [List.getElem?_range hi, List.getElem?_eq_getElem hi]
    simp only [Option.map_some]
    rw [piece_back h h1 t i _ (List.getElem?_eq_getElem hi)]
  · rw [List.getElem?_eq_none (by simpa using hi), List.getElem?_eq_none hi]
    rfl
theorem num_head {ls : List (List Int × List UInt8)} (h : walOk ls = true) (t : List UInt8) : num4 (wmark ++ (leB (ls.length : Int) 4 ++ t)) 4 = ls.length := by
  have := (ok_parts h).1
  unfold num4
  rw [drop_into wmark (leB (ls.length : Int) 4) t 4 4 rfl (leB_len _ _), leN_leB]
  have : (256 : Int) ^ 4 = 4294967296 := by decide
  rw [this]
  omega
/-- What is put is got, whatever is behind. -/
theorem we_back {ls : List (List Int × List UInt8)} (h : walOk ls = true) (h1 : oneNo ls) (more : List UInt8) : WE (walB ls ++ more) = (0, ls) := by
  obtain ⟨hn, hr, h5⟩ := ok_parts h
  have hl := walB_len h
  have hh := whead_len h
  have e1 : walB ls ++ more = wmark ++ (leB (ls.length : Int) 4 ++ (wbody ls ++ (leB ((crcOf (whead ls)).toNat : Int) 4 ++ more))) := by
    unfold walB; conv => lhs; arg 1; arg 1; unfold whead
    simp
  have e2 : walB ls ++ more = whead ls ++ (leB ((crcOf (whead ls)).toNat : Int) 4 ++ more) := by unfold walB; simp
  have hnum : num4 (walB ls ++ more) 4 = ls.length := by rw [e1]; exact num_head h _
  have hnt : (num4 (walB ls ++ more) 4).toNat = ls.length := by rw [hnum]; omega
  have hC := (crcOf (whead ls)).isLt
  have hp : pieces (walB ls ++ more) (num4 (walB ls ++ more) 4).toNat = ls := by rw [hnt, e2]; exact pieces_back h h1 _
  rw [WE_ok (by simp; omega) (by rw [e1, List.take_append_of_le_length (by decide)]; rfl) (by simp; omega) (by rw [hnum]; omega) (by rw [hnt]; simp; omega) ?_ (by rw [hp]; exact hr), hp]
  rw [hnt]
  have e3 : (walB ls ++ more).take (8 + 516 * ls.length) = whead ls := by
    rw [e2, List.take_append_of_le_length (by omega), List.take_of_length_le (by omega)]
  rw [e3]
  unfold num4
  rw [e2, drop_into _ _ _ _ _ hh (leB_len _ _), leN_leB]
  have : (256 : Int) ^ 4 = 4294967296 := by decide
  rw [this]
  omega
/-- No beginning of it is one. -/
theorem we_begin {ls : List (List Int × List UInt8)} (h : walOk ls = true) (k : Nat) (hk : k < 12 + 516 * ls.length) : WE ((walB ls).take k) = (3, []) := by
  have hl := walB_len h
  have hn := (ok_parts h).1
  have hlen : ((walB ls).take k).length = k := by rw [List.length_take]; omega
  rcases Nat.lt_or_ge k 4 with h4 | h4
  · exact WE_short (by omega)
  have e1 : walB ls = wmark ++ (leB (ls.length : Int) 4 ++ (wbody ls ++ leB ((crcOf (whead ls)).toNat : Int) 4)) := by
    unfold walB; conv => lhs; arg 1; unfold whead
    simp
  have hw : wmark.length = 4 := rfl
  have hm : ((walB ls).take k).take 4 = wmark := by
    rw [List.take_take, Nat.min_eq_left h4, e1, List.take_append_of_le_length (by omega)]; rfl
  rcases Nat.lt_or_ge k 8 with h8 | h8
  · exact WE_8 (by omega) hm (by omega)
  have hnum : num4 ((walB ls).take k) 4 = ls.length := by
    have e2 : ((walB ls).take k) = wmark ++ (leB (ls.length : Int) 4 ++ ((wbody ls ++ leB ((crcOf (whead ls)).toNat : Int) 4).take (k - 4 - 4))) := by
      rw [e1, List.take_append, List.take_of_length_le (by omega), List.take_append, List.take_of_length_le (by rw [leB_len]; omega), leB_len, hw]
    rw [e2]
    exact num_head h _
  exact WE_size (by omega) hm (by omega) (by rw [hnum]; omega) (by rw [hnum, hlen]; omega)
end Go.Proofs.Ythflnndjjhifeaa
