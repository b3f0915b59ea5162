/- Contracts of package bits: the two Aligns. -/
import Derived.Test.YtnedboomhbdecaaBit5
namespace Go.Proofs.Ytnedboomhbdecaa
open Go.RowKit

theorem natOf_zeros : ∀ z : Nat, natOf (List.replicate z false) = 0
  | 0 => rfl
  | z + 1 => by have := natOf_zeros z; simp [List.replicate_succ, natOf, this]
theorem byteAt_pad (l : List Bool) (z i : Nat) (h : 8 * i ≤ l.length) : byteAt (l ++ List.replicate z false) i = byteAt l i := by
  unfold byteAt
  rw [List.drop_append_of_le_length h, List.take_append, natOf_app, List.take_replicate, natOf_zeros, Nat.zero_mul, Nat.add_zero]
/-- Filling the last byte with zeros turns no byte. -/
theorem packB_pad (l : List Bool) : packB (l ++ List.replicate ((8 - l.length % 8) % 8) false) = packB l := by
  unfold packB
  have e : ((l ++ List.replicate ((8 - l.length % 8) % 8) false).length + 7) / 8 = (l.length + 7) / 8 := by simp; omega
  rw [e]
  refine List.map_congr_left fun i hi => byteAt_pad l _ i ?_
  have := List.mem_range.1 hi
  omega
theorem and7_i64 (x : Int) : bits .and .i64 x 7 = x % 8 := by
  show IntKind.i64.wrap ((BitVec.ofInt 64 x &&& BitVec.ofInt 64 7).toNat : Int) = _
  have e : (BitVec.ofInt 64 7).toNat = 2 ^ 3 - 1 := rfl
  rw [BitVec.toNat_and, e, Nat.and_two_pow_sub_one_eq_mod, BitVec.toNat_ofInt, IntKind.wrap_i64]
  omega

theorem walign_any (g : Nat) (S : Nat → Prop) (l : List Bool) (w : World) (h : WrS w S g l) (hl : l.length ≤ 1000000000) :
    Calls Try.prog 30 #[.pointer (some ⟨g, 0, none⟩)] w fun e w' => e = .returned (.tuple #[]) ∧ WrS w' S g (l ++ List.replicate ((8 - l.length % 8) % 8) false) ∧ Ch S w w' := by
  have hpk := packB_pad l
  have hlen : (l ++ List.replicate ((8 - l.length % 8) % 8) false).length = 8 * ((l.length + 7) / 8) := by simp; omega
  have hlen2 : ((l ++ List.replicate ((8 - l.length % 8) % 8) false).length + 7) / 8 = (l.length + 7) / 8 := by omega
  obtain ⟨v, hb, hown, hS, hSv, hlt⟩ := h
  obtain ⟨A, c, rfl, _, _⟩ := own_form hown
  have c0 := hb.cell 0
  have f1 := hb.free 1
  have c1 := hb.cell 1
  simp at c0 c1
  generalize hL : l ++ List.replicate ((8 - l.length % 8) % 8) false = L at *
  clear hL
  have q1 : IntKind.i64.wrap (8 * (((l.length + 7) / 8 : Nat) : Int)) = 8 * (((l.length + 7) / 8 : Nat) : Int) := IntWalk.i64_in _ (by omega)
  have hset := hb.set 1 (.int .i64 (L.length : Int))
  simp only [List.setIfInBounds_toArray, List.set_cons_zero, List.set_cons_succ] at hset
  have how := own_ch hown ((Ch.refl (fun k => k = g) w).set (p := ⟨g, 1, none⟩) (.inl rfl) (.int .i64 (L.length : Int))) (fun i hi => (hSv i hi).2)
  have hch := (Ch.refl S w).set (p := ⟨g, 1, none⟩) (.inl hS) (.int .i64 (L.length : Int))
  have hcast : (L.length : Int) = 8 * (((l.length + 7) / 8 : Nat) : Int) := by omega
  have Hpost : WrS (w.setCell ⟨g, 1, none⟩ (.int .i64 (8 * (((l.length + 7) / 8 : Nat) : Int)))) S g L ∧ Ch S w (w.setCell ⟨g, 1, none⟩ (.int .i64 (8 * (((l.length + 7) / 8 : Nat) : Int)))) := by
    rw [← hcast]
    exact ⟨⟨_, hset, by rw [hlen2, hpk]; exact how, hS, hSv, fun i hi => Nat.lt_of_lt_of_le (hlt i hi) hch.size⟩, hch⟩
  have Hp := Lib.hid Hpost
  clear Hpost hset how hch hpk hlen hlen2 hcast
  have hm : (l.length + 7) / 8 ≤ 200000000 := by omega
  generalize (l.length + 7) / 8 = m at *
  go_enter Try.func30, Try.ntmps30
  go_wp2
  all_goals
    first
      | (go_end0; exact ⟨rfl, Hp.out.1, Hp.out.2⟩)
      | skip

set_option maxHeartbeats 1000000 in
theorem ralign_any (g : Nat) (S : Nat → Prop) (l : List UInt8) (a : Nat) (w : World) (h : RdS w S g l a) :
    Calls Try.prog 41 #[.pointer (some ⟨g, 0, none⟩)] w fun e w' => e = .returned (.int .i64 (((8 - a % 8) % 8 : Nat) : Int)) ∧ RdS w' S g l (a + (8 - a % 8) % 8) ∧ Ch S w w' := by
  obtain ⟨v, hb, hown, hS, hSv, hlt, ha, hl⟩ := h
  have c1 := hb.cell 1
  have f1 := hb.free 1
  simp at c1
  have hset := hb.set 1 (.int .i64 ((a + (8 - a % 8) % 8 : Nat) : Int))
  simp only [List.setIfInBounds_toArray, List.set_cons_zero, List.set_cons_succ] at hset
  have how := own_ch hown ((Ch.refl (fun k => k = g) w).set (p := ⟨g, 1, none⟩) (.inl rfl) (.int .i64 ((a + (8 - a % 8) % 8 : Nat) : Int))) (fun i hi => (hSv i hi).2)
  have hch := (Ch.refl S w).set (p := ⟨g, 1, none⟩) (.inl hS) (.int .i64 ((a + (8 - a % 8) % 8 : Nat) : Int))
  have Hp : RdS (w.setCell ⟨g, 1, none⟩ (.int .i64 ((a + (8 - a % 8) % 8 : Nat) : Int))) S g l (a + (8 - a % 8) % 8) ∧ Ch S w (w.setCell ⟨g, 1, none⟩ (.int .i64 ((a + (8 - a % 8) % 8 : Nat) : Int))) :=
    ⟨⟨v, hset, how, hS, hSv, fun i hi => Nat.lt_of_lt_of_le (hlt i hi) hch.size, by omega, hl⟩, hch⟩
  have HP := Lib.hid Hp
  obtain ⟨z, hz⟩ : ∃ z, (8 - a % 8) % 8 = z := ⟨_, rfl⟩
  have hz8 : z < 8 := by omega
  have hna : (-(a : Int)) % 8 = (z : Int) := by omega
  clear hset how hch Hp
  rw [hz] at HP ⊢
  clear hz
  have hneg : IntKind.i64.wrap (-(a : Int)) = -(a : Int) := IntWalk.i64_in _ (by omega)
  have hand : bits .and .i64 (-(a : Int)) 7 = (z : Int) := by rw [and7_i64, hna]
  have hadd : IntKind.i64.wrap ((a : Int) + (z : Int)) = ((a + z : Nat) : Int) := by
    rw [IntWalk.i64_in _ (by omega)]; omega
  clear hna
  go_enter Try.func41, Try.ntmps41
  go_wp2
  go_ret
  exact ⟨rfl, HP.out.1, HP.out.2⟩
end Go.Proofs.Ytnedboomhbdecaa
