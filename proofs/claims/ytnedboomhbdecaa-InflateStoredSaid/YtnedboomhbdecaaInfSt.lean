/- InflateStored. -/
import Derived.Test.YtnedboomhbdecaaInfSp
import Derived.Test.YtnedboomhbdecaaInfEn
namespace Go.Proofs.Ytnedboomhbdecaa
open Go.RowKit
attribute [local go_sem ↓] Go.wp_at_zero Go.wp_at_succ

/-- What stands behind the first pieces. -/
def StQ (B : Nat) (ls : List (List UInt8)) (w0 : World) (b al : Value) (j : Nat) (w : World) : Prop :=
  ∃ nb na, nb ≤ 505 * j ∧ na ≤ 500 * j ∧ w.ownsRow B 5 1 b nb (bys (stT ls.length 0 (ls.take j))) ∧ w.ownsRow B 5 1 al na (bys (ls.take j).flatten) ∧
    (∀ k, b.ownBlock = some k → al.ownBlock ≠ some k) ∧ Below B w0 w ∧ (∀ p ∈ ls.take j, p.length ≤ 500)
theorem apart_in {w w' : World} {vb vb' va : Value} {B s n : Nat} {e : TypeId} {xs : List Value} (h : ∀ k, vb.ownBlock = some k → va.ownBlock ≠ some k) (ho : w.ownsRow B e s va n xs)
    (hv : vb'.ownBlock = vb.ownBlock ∨ vb'.ownBlock = some w.heap.size) : ∀ k, vb'.ownBlock = some k → va.ownBlock ≠ some k := by
  intro k hk he
  rcases hv with e1 | e1
  · rw [e1] at hk; exact h k hk he
  · rw [e1] at hk; injection hk with hk; have := (ho.lt k he).2; omega
theorem apart_in2 {w w' : World} {vb va va' : Value} {B s n : Nat} {e : TypeId} {xs : List Value} (h : ∀ k, vb.ownBlock = some k → va.ownBlock ≠ some k) (ho : w.ownsRow B e s vb n xs)
    (hv : va'.ownBlock = va.ownBlock ∨ va'.ownBlock = some w.heap.size) : ∀ k, vb.ownBlock = some k → va'.ownBlock ≠ some k := by
  intro k hk he
  rcases hv with e1 | e1
  · rw [e1] at he; exact h k hk he
  · rw [e1] at he; injection he with he; have := (ho.lt k hk).2; omega
theorem own_kept {w w' : World} {v va : Value} {B s n : Nat} {e : TypeId} {xs : List Value} (ho : w.ownsRow B e s va n xs) (hg : w.grownBy w' v.ownBlock) (h : ∀ k, v.ownBlock = some k → va.ownBlock ≠ some k) : w'.ownsRow B e s va n xs := by
  refine ho.kept hg ?_
  cases hb : va.ownBlock with
  | none => exact .inl rfl
  | some b => exact .inr (fun e2 => h b e2.symm hb)
theorem Rd.five (w : World) (t : TypeId) {a0 a1 a2 a3 a4 : Int} {u : List UInt8} (h : [Value.int .u8 a0, .int .u8 a1, .int .u8 a2, .int .u8 a3, .int .u8 a4] = bys u) :
    Rd (w.alloc (.cells #[.int .u8 a0, .int .u8 a1, .int .u8 a2, .int .u8 a3, .int .u8 a4] t)) (w.heap.size + 1) 1 (some ⟨w.heap.size, 0, none⟩) 5 (bys u) := by
  rw [← h]
  exact Rd.lits w t #[.int .u8 a0, .int .u8 a1, .int .u8 a2, .int .u8 a3, .int .u8 a4] rfl

theorem xor_255 : ∀ x : Fin 256, bits .xor .u8 IntKind.u8.max ((x.val : Nat) : Int) = ((255 - x.val : Nat) : Int) := by decide +kernel
theorem five_blk (la : Bool) (z : Int) (hz : z = (la.toNat : Int)) (n1 : Nat) (h : n1 ≤ 500) :
    [Value.int .u8 z, .int .u8 ((n1 : Int) % 256), .int .u8 ((n1 : Int) / 256), .int .u8 (bits .xor .u8 IntKind.u8.max ((n1 : Int) % 256)), .int .u8 (bits .xor .u8 IntKind.u8.max ((n1 : Int) / 256))] = bys (blkH la n1) := by
  have e1 := xor_255 ⟨n1 % 256, by omega⟩
  have e2 := xor_255 ⟨n1 / 256, by omega⟩
  simp only at e1 e2
  have c1 : (n1 : Int) % 256 = ((n1 % 256 : Nat) : Int) := by omega
  have c2 : (n1 : Int) / 256 = ((n1 / 256 : Nat) : Int) := by omega
  rw [c1, c2, e1, e2, hz]
  have n0 : (UInt8.ofNat la.toNat).toNat = la.toNat := by cases la <;> rfl
  have n2 : (UInt8.ofNat n1).toNat = n1 % 256 := by simp
  have n3 : (UInt8.ofNat (n1 / 256)).toNat = n1 / 256 := by simp; omega
  have n4 : (UInt8.ofNat (255 - n1 % 256)).toNat = 255 - n1 % 256 := by simp; omega
  have n5 : (UInt8.ofNat (255 - n1 / 256 % 256)).toNat = 255 - n1 / 256 := by simp; omega
  unfold blkH bys
  simp only [List.map_cons, List.map_nil, n0, n2, n3, n4, n5]
/-- One piece more. -/
theorem StQ.step {B : Nat} {ls : List (List UInt8)} {w0 : World} {b' al' : Value} {j nb na n1 : Nat} {w' : World} {l : List UInt8} {la : Bool} (hl : ls[j]? = some l) (hll : l.length = n1) (hn1 : n1 ≤ 500) (hla : la = decide (j + 1 = ls.length)) (hnb : nb ≤ 505 * j) (hna : na ≤ 500 * j)
    (hob : w'.ownsRow B 5 1 b' (nb + 5 + n1) (bys (stT ls.length 0 (ls.take j) ++ blkH la n1 ++ l))) (hoa : w'.ownsRow B 5 1 al' (na + n1) (bys ((ls.take j).flatten ++ l)))
    (hap : ∀ k, b'.ownBlock = some k → al'.ownBlock ≠ some k) (hbw : Below B w0 w') (hsm : ∀ p ∈ ls.take j, p.length ≤ 500) : StQ B ls w0 b' al' (j + 1) w' := by
  have ht := take_step hl
  have hjl : j < ls.length := (List.getElem?_eq_some_iff.1 hl).1
  have e : stT ls.length 0 (ls.take (j + 1)) = stT ls.length 0 (ls.take j) ++ blkH la n1 ++ l := by
    rw [ht, stT_snoc, List.length_take, Nat.min_eq_left (by omega), hla, hll, Nat.zero_add]
  refine ⟨nb + 5 + n1, na + n1, by omega, by omega, by rw [e]; exact hob, by rw [ht, List.flatten_append]; simpa using hoa, hap, hbw, ?_⟩
  intro p hp
  rw [ht] at hp
  rcases List.mem_append.1 hp with hp | hp
  · exact hsm p hp
  · rw [List.mem_singleton] at hp; subst hp; omega
set_option maxHeartbeats 4000000 in
set_option maxRecDepth 100000 in
theorem inflateStored_walk (A : Option Addr) (n c : Nat) (ls : List (List UInt8)) (w : World) (hr : RdRows w w.heap.size A n ls) (hnc : n ≤ c) (hcm : c ≤ maxLen) :
    Calls Try.prog 12 #[.slice A n c] w fun e w' => e = .returned (.bool true) ∧ Below w.heap.size w w' := by
  unfold maxLen at hcm
  by_cases h1 : 20 < n
  · clear hr
    go_enter Try.func12, Try.ntmps12
    go_wp2_with fail
    refine (infwakes_any w).mono ?_
    rintro e w1 ⟨rfl, hb1⟩
    go_wp2
    go_ret
    exact ⟨rfl, hb1⟩
  by_cases h2 : n = 0
  · clear hr
    subst h2
    go_enter Try.func12, Try.ntmps12
    go_wp2_with fail
    refine (infwakes_any w).mono ?_
    rintro e w1 ⟨rfl, hb1⟩
    go_wp2
    go_ret
    exact ⟨rfl, hb1⟩
  have h2b : ((n : Int) == 0) = false := by simpa using h2
  have hlen := hr.len
  have Hr := Lib.hid hr
  have Hlen := Lib.hid hlen
  clear hr hlen
  go_enter Try.func12, Try.ntmps12
  go_wp2_with fail
  refine (infwakes_any w).mono ?_
  rintro e w1 ⟨rfl, hb1⟩
  have h0 : StQ w.heap.size ls w (.slice none 0 0) (.slice none 0 0) 0 w1 := ⟨0, 0, by omega, by omega, by simp [stT]; exact own_nilB _ _ _, by simp; exact own_nilB _ _ _, fun k hk => by simp [Value.ownBlock] at hk, hb1, by simp⟩
  have H0 := Lib.hid h0
  clear h0 hb1
  go_wp2_with fail
  go_loopw [3, 4, 23] (fun b al i wr => ∃ j : Nat, j ≤ n ∧ i = .int .i64 j ∧ Hid (StQ w.heap.size ls w b al j wr)) (fun _ _ i _ => n - (intOf i).toNat)
  case atStart => exact ⟨0, by omega, rfl, H0⟩
  case round =>
    obtain ⟨j, hj, rfl, HI⟩ := hrel
    obtain ⟨nb, na, hnb, hna, hob, hoa, hap, hbw, hsm⟩ := HI.out
    have hsz := hbw.size
    obtain ⟨Ab, cb, rfl, hcb, hmb⟩ := own_form hob
    obtain ⟨Aa, ca, rfl, hca, hma⟩ := own_form hoa
    by_cases hlt : j < n
    · obtain ⟨b0, o0, v0, l, rfl, hb0, hl, hc0, hrb⟩ := Hr.out.at_ hlt
      have hc0' := (hbw.cell (p := ⟨b0, o0 + j, none⟩) (by show b0 < _; omega)).trans hc0
      have Hc0 := Lib.hid hc0
      clear hc0
      have hrb1 := hrb
      obtain ⟨A1, n1, c1, rfl, hrd, hnc1⟩ := hrb
      clear hrb1
      have hll := hrd.blen
      by_cases hbig : 500 < n1
      · clear hsm
        go_wp2
        go_ret
        exact ⟨rfl, hbw⟩
      · have hw8 : IntKind.u8.wrap (n1 : Int) = ((UInt8.ofNat n1).toNat : Int) := by rw [IntKind.wrap_u8]; simp
        have hnb2 : nb ≤ 11000 := by omega
        have hna2 : na ≤ 11000 := by omega
        have Hob := Lib.hid hob
        have Hoa := Lib.hid hoa
        have Hap := Lib.hid hap
        have Hsm := Lib.hid hsm
        have Hrd := Lib.hid hrd
        have Hll := Lib.hid hll
        have Hl := Lib.hid hl
        have Hbw := Lib.hid hbw
        have Hnb := Lib.hid hnb
        have Hna := Lib.hid hna
        clear hob hoa hap hsm hrd hll hl hbw hnb hna HI
        by_cases hlast : j + 1 = n
        · have hq : ((j : Int) == (n : Int) - 1) = true := by simp; omega
          have H5 := Lib.hid (five_blk true 1 rfl n1 (by omega))
          have Hla := Lib.hid (show true = decide (j + 1 = ls.length) by rw [Hlen.out, decide_eq_true hlast])
          clear hlast
          go_wp2_with (
            at_builtin
            first
            | (refine ap_bys (Hob.out.alloc _) (Rd.five wr _ H5.out) (Hbw.out.alloc hsz _) (by simp; omega) (by omega) rfl rfl rfl ?_
               intro v3 w3 hown3 hb3 hg3 ha3
               have Hoa3 := Lib.hid (own_kept (Hoa.out.alloc _) hg3 Hap.out)
               have Hap3 := Lib.hid (apart_in (w' := w3) Hap.out (Hoa.out.alloc _) ha3)
               have Hown3 := Lib.hid hown3
               have Hb3 := Lib.hid hb3
               have hcl : w3.cell? ⟨b0, o0 + j, none⟩ = some (.slice A1 n1 c1) := (hb3.cell (p := ⟨b0, o0 + j, none⟩) (by show b0 < _; omega)).trans Hc0.out
               have hz3 := hb3.size
               clear hown3 hg3 ha3 hb3)
            | (refine ap_bys Hown3.out (Hrd.out.below Hb3.out (Nat.le_refl _)) Hb3.out hz3 (by omega) rfl rfl rfl ?_
               intro v4 w4 hown4 hb4 hg4 ha4
               have Hoa4 := Lib.hid (own_kept Hoa3.out hg4 Hap3.out)
               have Hap4 := Lib.hid (apart_in (w' := w4) Hap3.out Hoa3.out ha4)
               have Hown4 := Lib.hid hown4
               have Hb4 := Lib.hid hb4
               have hcl : w4.cell? ⟨b0, o0 + j, none⟩ = some (.slice A1 n1 c1) := (hb4.cell (p := ⟨b0, o0 + j, none⟩) (by show b0 < _; omega)).trans Hc0.out
               have hz4 := hb4.size
               clear hown4 hg4 ha4 hb4)
            | (refine ap_bys Hoa4.out (Hrd.out.below Hb4.out (Nat.le_refl _)) Hb4.out hz4 (by omega) rfl rfl rfl ?_
               intro v5 w5 hown5 hb5 hg5 ha5))
          have Hst := Lib.hid (StQ.step (b' := v4) (al' := v5) (w' := w5) Hl.out Hll.out (by omega) Hla.out Hnb.out Hna.out (own_kept Hown4.out hg5 (fun k hk e => Hap4.out k e hk)) hown5 (apart_in2 (w' := w5) Hap4.out Hown4.out ha5) hb5 Hsm.out)
          clear hown5 hg5 ha5 hb5
          go_roundw
          case rel => exact ⟨j + 1, by omega, by go_num, Hst⟩
          case measure => simp [intOf]; omega
        · have hq : ((j : Int) == (n : Int) - 1) = false := by simp; omega
          have H5 := Lib.hid (five_blk false 0 rfl n1 (by omega))
          have Hla := Lib.hid (show false = decide (j + 1 = ls.length) by rw [Hlen.out, decide_eq_false hlast])
          clear hlast
          go_wp2_with (
            at_builtin
            first
            | (refine ap_bys (Hob.out.alloc _) (Rd.five wr _ H5.out) (Hbw.out.alloc hsz _) (by simp; omega) (by omega) rfl rfl rfl ?_
               intro v3 w3 hown3 hb3 hg3 ha3
               have Hoa3 := Lib.hid (own_kept (Hoa.out.alloc _) hg3 Hap.out)
               have Hap3 := Lib.hid (apart_in (w' := w3) Hap.out (Hoa.out.alloc _) ha3)
               have Hown3 := Lib.hid hown3
               have Hb3 := Lib.hid hb3
               have hcl : w3.cell? ⟨b0, o0 + j, none⟩ = some (.slice A1 n1 c1) := (hb3.cell (p := ⟨b0, o0 + j, none⟩) (by show b0 < _; omega)).trans Hc0.out
               have hz3 := hb3.size
               clear hown3 hg3 ha3 hb3)
            | (refine ap_bys Hown3.out (Hrd.out.below Hb3.out (Nat.le_refl _)) Hb3.out hz3 (by omega) rfl rfl rfl ?_
               intro v4 w4 hown4 hb4 hg4 ha4
               have Hoa4 := Lib.hid (own_kept Hoa3.out hg4 Hap3.out)
               have Hap4 := Lib.hid (apart_in (w' := w4) Hap3.out Hoa3.out ha4)
               have Hown4 := Lib.hid hown4
               have Hb4 := Lib.hid hb4
               have hcl : w4.cell? ⟨b0, o0 + j, none⟩ = some (.slice A1 n1 c1) := (hb4.cell (p := ⟨b0, o0 + j, none⟩) (by show b0 < _; omega)).trans Hc0.out
               have hz4 := hb4.size
               clear hown4 hg4 ha4 hb4)
            | (refine ap_bys Hoa4.out (Hrd.out.below Hb4.out (Nat.le_refl _)) Hb4.out hz4 (by omega) rfl rfl rfl ?_
               intro v5 w5 hown5 hb5 hg5 ha5))
          have Hst := Lib.hid (StQ.step (b' := v4) (al' := v5) (w' := w5) Hl.out Hll.out (by omega) Hla.out Hnb.out Hna.out (own_kept Hown4.out hg5 (fun k hk e => Hap4.out k e hk)) hown5 (apart_in2 (w' := w5) Hap4.out Hown4.out ha5) hb5 Hsm.out)
          clear hown5 hg5 ha5 hb5
          go_roundw
          case rel => exact ⟨j + 1, by omega, by go_num, Hst⟩
          case measure => simp [intOf]; omega
    · obtain rfl : n = j := by omega
      have htk : ls.take n = ls := List.take_of_length_le (by rw [Hlen.out]; exact Nat.le_refl _)
      rw [htk] at hob hoa hsm
      have hfl := flat_le ls hsm
      have hsl := stT_len ls.length ls 0
      have hbl := (Rd.of_own hob).blen
      have hal := (Rd.of_own hoa).blen
      have hne : ls ≠ [] := fun h => by have := Hlen.out; rw [h] at this; simp at this; omega
      have hnl := Hlen.out
      have hal5 := all_any Ab nb cb (stT ls.length 0 ls) na wr (Rd.of_own hob) (by omega) (by omega)
      have Hal := Lib.hid hal5
      have Hoc := Lib.hid (fun r f => st_oc (r := r) (f := f) ls hne hsm)
      have Hra := Lib.hid (Rd.of_own hoa)
      have Hbw := Lib.hid hbw
      have Hbl := Lib.hid hbl
      have Hale := Lib.hid hal
      have hna2 : na ≤ 10000 := by omega
      clear htk hob hoa hsm hfl hsl hbl hal hne hnl hal5 hbw HI hap hnb hna H0
      go_wp2_with fail
      refine Hal.out.mono ?_
      rintro e w2 ⟨hb2, ⟨X, nx, cx, x, k, rfl, hoc, hrd, hnx⟩ | ⟨rfl, hoc⟩ | ⟨E, hE, rfl, hoc⟩⟩
      · rw [← Hale.out] at hoc
        obtain ⟨he, _⟩ := Hoc.out _ _ hoc
        injection he with he
        injection he with he1 he2
        subst he1
        rw [Hbl.out] at he2
        subst he2
        have hz2 := hb2.size
        have hxn := hrd.blen
        have hs1 := same_self X Aa nx na cx ca _ _ w2 hrd ((Hra.out.below hb2 (Nat.le_refl _)).more hz2) rfl (by have := Hale.out; omega) (by omega)
        have Hs1 := Lib.hid hs1
        have Hb := Lib.hid (Hbw.out.trans (hb2.mono hsz))
        clear hs1 hrd hxn hoc hb2 Hal
        go_wp2_with fail
        refine Hs1.out.mono ?_
        rintro e w7 ⟨rfl, q, rfl⟩
        go_wp2
        go_ret
        exact ⟨rfl, below_drewN Hb.out _⟩
      · rw [← Hale.out] at hoc
        exact absurd (Hoc.out _ _ hoc).1 (by simp)
      · rw [← Hale.out] at hoc
        exact absurd (Hoc.out _ _ hoc).1 (by simp)
end Go.Proofs.Ytnedboomhbdecaa
