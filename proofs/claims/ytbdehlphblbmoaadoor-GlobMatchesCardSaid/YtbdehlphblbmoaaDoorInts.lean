/- append of ints, at this program's types. -/
import Derived.Test.YtbdehlphblbmoaaDoorMem
namespace Go.Proofs.YtbdehlphblbmoaaDoor
open Go.RowKit

theorem infoI : (Tryd.prog.info? 3).map (fun i => (i.zero, i.size, i.bytes)) = some (some (.int .i64 0), 1, 8) := by kernel_rfl

/-- append of ints, at this program. -/
theorem ap_its {w w0 : World} {ops : Array Oper} {rest : List Oper} {a : Act} {Q : Exit → Act → World → Prop} {d : Option Tmp} {ty : TypeId} {pos : String} {af : Array Edge} {g : Option (Nat × Bool)} {s x : Operand} {base : Nat}
    {v : Value} {n : Nat} {xs : List Int} (hown : w.ownsRow base 3 1 v n (its xs))
    {B : Nat} {A : Option Addr} {m c : Nat} {news : List Int} (hr : Rd w B 1 A m (its news))
    (hb : Below base w0 w) (hbase : base ≤ w.heap.size) (hbytes : n + m ≤ 17592186044416)
    (hs : a.eval s = v) (hx : a.eval x = .slice A m c)
    (hw : Region.wanted { dst := d, op := .call { callee := .builtin .append, args := #[s, x], argTypes := #[35, 35] }, type := ty, pos := pos, after := af, guard := g } (yielded ops a.tmps) = true)
    (h : ∀ v' w', w'.ownsRow base 3 1 v' (n + m) (its (xs ++ news)) → Below base w0 w' → w.grownBy w' v.ownBlock → (v'.ownBlock = v.ownBlock ∨ v'.ownBlock = some w.heap.size) → wpList Tryd.prog ops Q rest (a.put d v') w') :
    wpList Tryd.prog ops Q ({ dst := d, op := .call { callee := .builtin .append, args := #[s, x], argTypes := #[35, 35] }, type := ty, pos := pos, after := af, guard := g } :: rest) a w := by
  obtain ⟨i0, hi, hz0, hz1, hz2⟩ := info_parts infoI
  exact ap_any Tryd.underlying35 hi hz0 hz1 hz2 rfl (by decide) hown hr (its_one _) hb hbase (by omega) hs hx hw (fun v' w' h1 h2 h3 h4 => h v' w' (by rw [its_app]; exact h1) h2 h3 h4)
theorem Rd.icut {w : World} {B n : Nat} {A : Option Addr} {l : List Int} (h : Rd w B 1 A n (its l)) {k m : Nat} (hk : k + m ≤ n) {A' : Option Addr} (hA : 0 < m → A' = A.map (·.add k)) :
    Rd w B 1 A' m (its ((l.drop k).take m)) := by
  have := h.cut hk (A' := A') (by simpa using hA)
  simpa [its_drop, its_take] using this
/-- b[l:h] of ints, at this program. -/
theorem cut_its {w : World} {ops : Array Oper} {rest : List Oper} {a : Act} {Q : Exit → Act → World → Prop} {d : Option Tmp} {ty : TypeId} {pos : String} {af : Array Edge} {g : Option (Nat × Bool)} {s lo hi : Operand}
    {A : Option Addr} {n c B : Nat} {xs : List Int} (hr : Rd w B 1 A n (its xs)) (hnc : n ≤ c) {kl kh : IntKind} {xl xh : Int} (l m : Nat) (hc : l + m ≤ n)
    (hs : a.eval s = .slice A n c) (hl : a.eval lo = .int kl xl) (hh : a.eval hi = .int kh xh) (el : xl = l) (eh : xh = (l + m : Nat))
    (hw : Region.wanted { dst := d, op := .slice 35 s (some lo) (some hi) none, type := ty, pos := pos, after := af, guard := g } (yielded ops a.tmps) = true)
    (h : ∀ A' c', Rd w B 1 A' m (its ((xs.drop l).take m)) → m ≤ c' → c' ≤ c → wpList Tryd.prog ops Q rest (a.put d (.slice A' m c')) w) :
    wpList Tryd.prog ops Q ({ dst := d, op := .slice 35 s (some lo) (some hi) none, type := ty, pos := pos, after := af, guard := g } :: rest) a w := by
  obtain ⟨i0, hi, hz0, hz1, hz2⟩ := info_parts infoI
  exact slice_lh Tryd.underlying35 hi hz1 l m (by omega) hs hl hh el eh hw (fun A' c' h1 h2 h3 => h A' c' (hr.icut hc (fun hm => by simpa using h1 hm)) h2 h3)
end Go.Proofs.YtbdehlphblbmoaaDoor
