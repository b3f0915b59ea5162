/- The contract of dos.Text. -/
import Derived.Test.YtmijgcmlpdehkaaDoorDosX
namespace Go.Proofs.YtmijgcmlpdehkaaDoor
open Go.RowKit
attribute [local go_sem ↓] Go.wp_at_zero Go.wp_at_succ

/-- The library's table reads as its text lays it, whatever is done from block B on. -/
def Tab (B : Nat) (w : World) : Prop := ∀ w', Below B w w' → Lib.TabIs Tryd.prog w' "internal/strconv.uint64pow10" .u64 Lib.pow10Tab
theorem Tab.on {B : Nat} {w w' : World} (h : Tab B w) (hb : Below B w w') : Tab B w' := fun _ h2 => h _ (hb.trans h2)
theorem Tab.at_ {B : Nat} {w w' : World} (h : Tab B w) (hb : Below B w w') : Lib.TabIs Tryd.prog w' "internal/strconv.uint64pow10" .u64 Lib.pow10Tab := h w' hb
theorem Tab.up {B C : Nat} {w : World} (h : Tab B w) (hB : B ≤ C) : Tab C w := fun _ h2 => h _ (h2.mono hB)
set_option maxHeartbeats 1000000 in
theorem text_no (n : Int) (w : World) (hn : -9223372036854775808 ≤ n ∧ n ≤ 9223372036854775807) (hr : ¬ RightN n) :
    Calls Tryd.prog 7 #[.int .i64 n] w fun e w' => e = .returned (.tuple #[.string ⟨#[]⟩, .int .i64 1]) ∧ Below w.heap.size w w' := by
  go_enter Tryd.func7, Tryd.ntmps7
  go_wp2_with fail
  refine (get_no n w hn hr).mono ?_
  rintro e w1 ⟨rfl, hb1⟩
  go_wp2
  go_ret2
  exact ⟨rfl, hb1.alloc hb1.size _⟩
theorem time_str (y m d u i s : Int) : str (t10 y m d) ++ ({ data := #[32] } ++ str (d2 u) ++ { data := #[58] } ++ str (d2 i) ++ { data := #[58] } ++ str (d2 s)) = str (t10 y m d ++ t9 u i s) := by
  rw [show ({ data := #[32] } : ByteArray) = str [32] from rfl, show ({ data := #[58] } : ByteArray) = str [58] from rfl]
  simp only [str_app]
  congr 1
set_option maxHeartbeats 1000000 in
theorem text_parts (n y m d u i s : Int) (w : World) (hg : Calls Tryd.prog 6 #[.int .i64 n] w fun e w' => e = .returned (.tuple #[.agg #[.int .i64 y, .int .i64 m, .int .i64 d, .int .i64 u, .int .i64 i, .int .i64 s], .int .i64 0]) ∧ Below w.heap.size w w')
    (htab : Tab w.heap.size w) (hy : 1980 ≤ y ∧ y ≤ 2107) (hm : 1 ≤ m ∧ m ≤ 12) (hd : 1 ≤ d ∧ d ≤ 31) (hu : 0 ≤ u ∧ u ≤ 23) (hi : 0 ≤ i ∧ i ≤ 59) (hs : 0 ≤ s ∧ s ≤ 59) (T : List UInt8) (hT0 : u = 0 ∧ i = 0 ∧ s = 0 → T = t10 y m d) (hT1 : ¬ (u = 0 ∧ i = 0 ∧ s = 0) → T = t10 y m d ++ t9 u i s) :
    Calls Tryd.prog 7 #[.int .i64 n] w fun e w' => e = .returned (.tuple #[.string (str T), .int .i64 0]) ∧ Below w.heap.size w w' := by
  have Htab := Lib.hid htab
  have HT0 := Lib.hid hT0
  have HT1 := Lib.hid hT1
  clear htab hT0 hT1
  go_enter Tryd.func7, Tryd.ntmps7
  go_wp2_with fail
  refine hg.mono ?_
  rintro e w1 ⟨rfl, hb1⟩
  clear hg
  have hbk := Bk.new w1 24 #[.int .i64 y, .int .i64 m, .int .i64 d, .int .i64 u, .int .i64 i, .int .i64 s]
  have hbe := hb1.alloc hb1.size (.cells #[.int .i64 y, .int .i64 m, .int .i64 d, .int .i64 u, .int .i64 i, .int .i64 s] 24)
  have hT := Htab.out.on hbe
  have hS : ∀ w', Bk w' w1.heap.size 24 #[.int .i64 y, .int .i64 m, .int .i64 d, .int .i64 u, .int .i64 i, .int .i64 s] → w'.cell? ⟨w1.heap.size, 0, none⟩ = some (.int .i64 y) ∧ w'.cell? ⟨w1.heap.size, 1, none⟩ = some (.int .i64 m) ∧ w'.cell? ⟨w1.heap.size, 2, none⟩ = some (.int .i64 d) ∧ w'.cell? ⟨w1.heap.size, 3, none⟩ = some (.int .i64 u) ∧ w'.cell? ⟨w1.heap.size, 4, none⟩ = some (.int .i64 i) ∧ w'.cell? ⟨w1.heap.size, 5, none⟩ = some (.int .i64 s) :=
    fun w' h => ⟨h.cell 0, h.cell 1, h.cell 2, h.cell 3, h.cell 4, h.cell 5⟩
  have HS := Lib.hid hS
  clear hS
  have HB := Lib.hid (And.intro hbk (And.intro hbe hT))
  have hgl : w1.heap.size < (w1.alloc (.cells #[.int .i64 y, .int .i64 m, .int .i64 d, .int .i64 u, .int .i64 i, .int .i64 s] 24)).heap.size := hbk.lt
  clear hbk hbe hT
  go_wp2_with fail
  generalize (w1.alloc (.cells #[.int .i64 y, .int .i64 m, .int .i64 d, .int .i64 u, .int .i64 i, .int .i64 s] 24)) = w2 at *
  generalize w1.heap.size = G at *
  obtain ⟨hbk, hbe, hT⟩ := HB.out
  obtain ⟨c0, c1, c2, c3, c4, c5⟩ := HS.out w2 hbk
  have z3 : (str (d2 m)).size = 2 := rfl
  have z4 : (str (d2 d)).size = 2 := rfl
  have z5 : (str (d2 (y / 100) ++ d2 (y % 100))).size = 4 := rfl
  have HT := Lib.hid hT
  clear hT
  go_region_held3 (fun w' => w'.cell? ⟨G, 0, none⟩ = some (.int .i64 y) ∧ w'.cell? ⟨G, 1, none⟩ = some (.int .i64 m) ∧ w'.cell? ⟨G, 2, none⟩ = some (.int .i64 d)) (first | (exact ⟨c0, c1, c2⟩) | (exact ⟨k0, k1, k2⟩))
    (first
      | ((go_at_call 13; (with_reducible refine (digits2_any _ _ (by omega) (by omega)).mono ?_); rintro e w' ⟨rfl, rfl⟩))
      | ((go_at_call 13; (with_reducible refine (digits4_any y w2.drew (by omega) (by omega) (HT.out.at_ (Below.refl _ _).drew)).mono ?_); rintro e w3 ⟨rfl, hb3⟩; have hbk3 := hbk.drew.below hb3 hgl; obtain ⟨k0, k1, k2, k3, k4, k5⟩ := HS.out w3 hbk3)))
  have hst : str (d2 (y / 100) ++ d2 (y % 100)) ++ { data := #[45] } ++ str (d2 m) ++ { data := #[45] } ++ str (d2 d) = str (t10 y m d) := by
    rw [show ({ data := #[45] } : ByteArray) = str [45] from rfl]
    simp only [str_app]
    congr 1
  rw [hst]
  have z6 : (str (t10 y m d)).size = 10 := rfl
  have hbe3 := hbe.drew.trans (hb3.mono hbe.size)
  clear hst z3 z4 z5 c0 c1 c2 c3 c4 c5 HB hbk hbe hb3
  go_wp2_with fail
  · have hif : u = 0 ∧ i = 0 ∧ s = 0 := by refine ⟨?_, ?_, ?_⟩ <;> omega
    go_ret2
    exact ⟨by rw [HT0.out hif]; rfl, hbe3⟩
  all_goals
    have hif : ¬ (u = 0 ∧ i = 0 ∧ s = 0) := by omega
    have hTT := HT1.out hif
    have HTT := Lib.hid hTT
    clear hif hTT HT0 HT1
    subst_vars
    have z1 : ∀ x, (str (d2 x)).size = 2 := fun _ => rfl
    go_quiet ((go_at_call 13; exact Calls.quiet_of_same (digits2_any _ _ (by omega) (by omega))))
    go_wp2
    go_ret2
    refine ⟨?_, below_drewN hbe3 _⟩
    show Ending.returned (.tuple #[.string _, .int .i64 0]) = _
    rw [time_str]
set_option maxHeartbeats 1000000 in
theorem text_yes (n : Int) (w : World) (hr : RightN n) (htab : Tab w.heap.size w) :
    Calls Tryd.prog 7 #[.int .i64 n] w fun e w' => e = .returned (.tuple #[.string (str (textN n)), .int .i64 0]) ∧ Below w.heap.size w w' := by
  have hb := right_bd hr
  have hy : 1980 ≤ 1980 + n / 33554432 ∧ 1980 + n / 33554432 ≤ 2107 := by omega
  have b3 : 0 ≤ n / 2048 % 32 := by omega
  have b4 : 0 ≤ n / 32 % 64 := by omega
  have b5 : 0 ≤ n % 32 * 2 := by omega
  obtain ⟨hb0, hb1, hb2, hb3, hb4, hb5, hb6⟩ := hb
  have hzz : (n % 65536 = 0) ↔ (n / 2048 % 32 = 0 ∧ n / 32 % 64 = 0 ∧ n % 32 * 2 = 0) := by omega
  exact text_parts n _ _ _ _ _ _ w (get_yes n w (by omega) hr) htab hy ⟨hb2.1, hb2.2⟩ ⟨hb3.1, hb3.2⟩ ⟨b3, hb4⟩ ⟨b4, hb5⟩ ⟨b5, hb6⟩ _ (fun h => by unfold textN; rw [if_pos (hzz.2 h)]) (fun h => by unfold textN; rw [if_neg (fun h2 => h (hzz.1 h2))])
end Go.Proofs.YtmijgcmlpdehkaaDoor
