/- Contracts for nodes: bytes.Compare, bytes.Equal. -/
import Derived.Test.YtelaliokmmaopaaDoorNodP
import Derived.Test.YtelaliokmmaopaaDoorMem
import Derived.Test.YtelaliokmmaopaaDoorCh
import Derived.Deep.RegionHeld3
import Derived.Deep.DrawnRows
namespace Go.Proofs.YtelaliokmmaopaaDoor
open Go.RowKit
attribute [local go_sem ↓] Go.wp_at_zero Go.wp_at_succ

theorem run_extBytes {P : Program} (w : World) : ∀ (l : List UInt8) (a : Addr) (acc : ByteArray), (∀ j x, l[j]? = some x → w.cell? (a.add j) = some (.int .u8 x.toNat)) →
    (Extern.Bytes.loadBytes a l.length acc).run P w = .ok ⟨acc.data ++ l.toArray⟩ w
  | [], a, acc, _ => by simp [Extern.Bytes.loadBytes]
  | x :: l, a, acc, h => by
    have h0 : w.cell? a = some (.int .u8 x.toNat) := by
      have := h 0 x rfl
      simpa [Addr.add] using this
    have ih := run_extBytes (P := P) w l (a.add 1) (acc.push x) (fun j y hy => by
      have := h (j + 1) y (by simpa using hy)
      have e : (a.add 1).add j = a.add (j + 1) := by
        unfold Addr.add
        by_cases hj : j = 0
        · subst hj; simp
        · simp [hj]; omega
      rw [e]; exact this)
    have hx : ((x.toNat : Int).toNat).toUInt8 = x := by simp
    simp only [List.length_cons, Extern.Bytes.loadBytes, Sem.run_bind, run_load, h0, Result.andThen, hx]
    rw [ih]
    congr 1
    apply ByteArray.ext
    simp [ByteArray.push]
theorem run_bytesSl {P : Program} {w : World} {B n c : Nat} {A : Option Addr} {l : List UInt8} (h : Rd w B 1 A n (bys l)) : (Extern.Bytes.bytesOf (.slice A n c)).run P w = .ok ⟨l.toArray⟩ w := by
  have hl := h.blen
  subst hl
  cases A with
  | none =>
    have : l = [] := by
      cases l with
      | nil => rfl
      | cons x r => obtain ⟨b, o, e, _⟩ := h.2 (by simp); cases e
    subst this
    rfl
  | some a =>
    by_cases h0 : l = []
    · subst h0; rfl
    · obtain ⟨b, o, e, hb, hc⟩ := h.2 (by cases l with | nil => exact absurd rfl h0 | cons x r => simp)
      injection e with e
      subst e
      have := run_extBytes (P := P) w l ⟨b, o, none⟩ .empty (fun j x hx => by
        rw [addLit]
        exact hc j _ (by simp [bys, hx]))
      unfold Extern.Bytes.bytesOf
      rw [this]
      congr 1
      apply ByteArray.ext
      simp
theorem run_compareSl {P : Program} {w : World} {B B' n c m d : Nat} {A A2 : Option Addr} {l r : List UInt8} (hl : Rd w B 1 A n (bys l)) (hr : Rd w B' 1 A2 m (bys r)) :
    (Extern.BytealgCompare.compare #[.slice A n c, .slice A2 m d]).run P w = .ok (.int .i64 (Lib.compareBytes l r)) w := by
  change Sem.run P (do pure (goInt (Extern.BytealgCompare.cmp (← Extern.Bytes.bytesOf (.slice A n c)) (← Extern.Bytes.bytesOf (.slice A2 m d))))) w = _
  simp only [Sem.run_bind, run_bytesSl hl, run_bytesSl hr, Sem.run_pure, Result.andThen]
  rw [Lib.cmp_eq]
  rfl
set_option maxHeartbeats 1000000 in
set_option maxRecDepth 100000 in
theorem compare_any (A A2 : Option Addr) (n c m d : Nat) (l r : List UInt8) (w : World) (hl : Rd w w.heap.size 1 A n (bys l)) (hr : Rd w w.heap.size 1 A2 m (bys r)) :
    Calls Tryd.prog 32 #[.slice A n c, .slice A2 m d] w fun e w' => e = .returned (.int .i64 (Lib.compareBytes l r)) ∧ w = w' := by
  have Hl := Lib.hid hl
  have Hr := Lib.hid hr
  clear hl hr
  go_enter Tryd.func32, Tryd.ntmps32
  go_wp2
  rw [run_callFunc_extern Tryd.func53 (by kernel_rfl) (by kernel_rfl) (by kernel_rfl) (e := Extern.BytealgCompare.compare) (by kernel_rfl), run_compareSl Hl.out Hr.out]
  simp only [Result.andThen]
  rw [Oper.upon_value]
  go_wp2
  go_ret
  exact ⟨rfl, rfl⟩
end Go.Proofs.YtelaliokmmaopaaDoor
