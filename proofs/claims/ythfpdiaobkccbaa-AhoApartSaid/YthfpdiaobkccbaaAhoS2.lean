/- Scans side by side: each keeps to its own blocks. -/
import Derived.Test.YthfpdiaobkccbaaAhoD
import Derived.Test.YthfpdiaobkccbaaMem
namespace Go.Proofs.Ythfpdiaobkccbaa
open Go.RowKit

/-- A scan that lies in blocks from B on, below C. -/
structure SO (w : World) (B C W0 S0 g : Nat) (T : Tt) (ws : List (List UInt8)) (t : List UInt8) : Prop where
  sc : SC w W0 S0 g T.S ws t
  l1 : B ≤ S0 ∧ S0 < C
  l2 : B ≤ g ∧ g < C
  hd : ∀ i, i < T.S.length → (T.V i).ownBlock ≠ some g
section
variable {w w' : World} {base B C W0 S0 g : Nat} {T : Tt} {ws : List (List UInt8)} {t : List UInt8}
theorem SO.heap (h : SO w B C W0 S0 g T ws t) (hk : ∀ k, B ≤ k → k < C → w'.heap[k]? = w.heap[k]?) : SO w' B C W0 S0 g T ws t :=
  ⟨h.sc.heap (hk _ h.l1.1 h.l1.2) (hk _ h.l2.1 h.l2.2), h.l1, h.l2, h.hd⟩
theorem SO.below (h : SO w B C W0 S0 g T ws t) (hb : Below w.heap.size w w') : SO w' B C W0 S0 g T ws t := ⟨h.sc.below hb, h.l1, h.l2, h.hd⟩
theorem SO.drewN (h : SO w B C W0 S0 g T ws t) (q : Nat) : SO (w.drewN q) B C W0 S0 g T ws t := ⟨h.sc.drewN q, h.l1, h.l2, h.hd⟩
/-- Another one is put into. -/
theorem SO.apart {B' C' : Nat} (h : SO w B C W0 S0 g T ws t) (hc : Ch (fun k => B' ≤ k ∧ k < C') w w') (hd : C ≤ B' ∨ C' ≤ B) : SO w' B C W0 S0 g T ws t := by
  have l1 := h.l1
  have l2 := h.l2
  exact ⟨h.sc.heap (hc.block _ h.sc.sb.lt (fun e => by omega)) (hc.block _ h.sc.fb.lt (fun e => by omega)), h.l1, h.l2, h.hd⟩
theorem Rd.apartS {n B' : Nat} {A : Option Addr} {xs : List Value} (h : Rd w B' 1 A n xs) (hB : B' ≤ w.heap.size) (h1 : B' ≤ S0) (h2 : B' ≤ g) : ∀ w', Ch (fun k => k = S0 ∨ k = g) w w' → Rd w' w'.heap.size 1 A n xs :=
  fun w' hc => (h.ch hc hB (fun i hi => by rcases hi with rfl | rfl <;> assumption)).more (by have := hc.size; omega)
/-- Scan, anew. -/
theorem scan_so (base W0 : Nat) (T : Tt) (ws : List (List UInt8)) (w : World) (hA : AT w base W0 (ws.length : Int) T) (hF : SemF T ws) (hne : ∀ x ∈ ws, x ≠ []) (hn : ws.length ≤ 8) :
    Calls Try.prog 11 #[.pointer (some ⟨W0, 0, none⟩)] w fun e w' => ∃ S0 g, e = .returned (.pointer (some ⟨S0, 0, none⟩)) ∧ AT w' base W0 (ws.length : Int) T ∧ SO w' w.heap.size w'.heap.size W0 S0 g T ws [] ∧ Below w.heap.size w w' := by
  refine (scan_any base W0 T ws w hA hF hne hn).mono ?_
  rintro e w' ⟨S0, g, rfl, hS, ⟨h1, h2, _⟩, hb⟩
  obtain ⟨hA', hd⟩ := scan_apart hA hb h2
  exact ⟨S0, g, rfl, hA', ⟨hS, ⟨h1, hS.sb.lt⟩, ⟨h2, hS.fb.lt⟩, hd⟩, hb⟩
/-- Put, at one scan of several. -/
theorem put_so {B' : Nat} {b : List UInt8} {A : Option Addr} {n : Nat} (c : Nat) (hA : AT w base W0 (ws.length : Int) T) (hF : SemF T ws) (hs : SO w B C W0 S0 g T ws t) (hr : Rd w B' 1 A n (bys b)) (hB : B' ≤ B) (hB2 : B' ≤ w.heap.size) (hn : n ≤ 100000) (ht : t.length ≤ 1000000) (hn8 : ws.length ≤ 8) :
    Calls Try.prog 12 #[.pointer (some ⟨S0, 0, none⟩), .slice A n c] w fun e w' => e = .returned (.int .i64 ((cntF (firsts ws (t ++ b)) : Int) - (cntF (firsts ws t) : Int))) ∧ AT w' base W0 (ws.length : Int) T ∧ SO w' B C W0 S0 g T ws (t ++ b) ∧ Ch (fun k => B ≤ k ∧ k < C) w w' := by
  refine (put_scan base W0 S0 g T ws t b A n c w hA hF hs.sc hs.hd (hr.apartS hB2 (by have := hs.l1; omega) (by have := hs.l2; omega)) hn ht hn8).mono ?_
  rintro e w' ⟨rfl, h1, h2, h3⟩
  have l1 := hs.l1
  have l2 := hs.l2
  exact ⟨rfl, h1, ⟨h2, hs.l1, hs.l2, hs.hd⟩, h3.mono (fun i hi => by rcases hi with rfl | rfl <;> assumption)⟩
end
/-- Ints, of two rows that are alike. -/
theorem ints_eq {A B : Option Addr} {n m c d : Nat} {l r : List Int} {w : World} (hl : Rd w w.heap.size 1 A n (its l)) (hr : Rd w w.heap.size 1 B m (its r)) (hn : n ≤ 9223372036854775807) (hm : m ≤ 9223372036854775807) (h : l = r) :
    Calls Try.prog 16 #[.slice A n c, .slice B m d] w fun e w' => e = .returned (.bool true) ∧ ∃ q, w' = w.drewN q :=
  (ints_any A B n m c d l r w hl hr hn hm).mono fun _ _ ⟨e, q⟩ => ⟨e.trans (ret_bool (decide_eq_true h)), q⟩
end Go.Proofs.Ythfpdiaobkccbaa
