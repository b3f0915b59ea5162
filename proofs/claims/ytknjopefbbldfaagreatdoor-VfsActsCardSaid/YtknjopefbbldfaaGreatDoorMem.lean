/- append and cuts of bytes, at this program's types. -/
import Derived.Test.YtknjopefbbldfaaGreatDoorBase
import Derived.Test.YtknjopefbbldfaaGreatDoorRows
namespace Go.Proofs.YtknjopefbbldfaaGreatDoor
open Go.RowKit

theorem infoB : (Tryz.prog.info? 5).map (fun i => (i.zero, i.size, i.bytes)) = some (some (.int .u8 0), 1, 1) := by kernel_rfl

/-- append of bytes, at this program. -/
theorem ap_bys {w w0 : World} {ops : Array Oper} {rest : List Oper} {a : Act} {Q : Exit → Act → World → Prop} {d : Option Tmp} {ty : TypeId} {pos : String} {af : Array Edge} {g : Option (Nat × Bool)} {s x : Operand} {base : Nat}
    {v : Value} {n : Nat} {xs : List UInt8} (hown : w.ownsRow base 5 1 v n (bys xs))
    {B : Nat} {A : Option Addr} {m c : Nat} {news : List UInt8} (hr : Rd w B 1 A m (bys news))
    (hb : Below base w0 w) (hbase : base ≤ w.heap.size) (hbytes : n + m ≤ 140737488355328)
    (hs : a.eval s = v) (hx : a.eval x = .slice A m c)
    (hw : Region.wanted { dst := d, op := .call { callee := .builtin .append, args := #[s, x], argTypes := #[29, 29] }, type := ty, pos := pos, after := af, guard := g } (yielded ops a.tmps) = true)
    (h : ∀ v' w', w'.ownsRow base 5 1 v' (n + m) (bys (xs ++ news)) → Below base w0 w' → w.grownBy w' v.ownBlock → (v'.ownBlock = v.ownBlock ∨ v'.ownBlock = some w.heap.size) → wpList Tryz.prog ops Q rest (a.put d v') w') :
    wpList Tryz.prog ops Q ({ dst := d, op := .call { callee := .builtin .append, args := #[s, x], argTypes := #[29, 29] }, type := ty, pos := pos, after := af, guard := g } :: rest) a w := by
  obtain ⟨i0, hi, hz0, hz1, hz2⟩ := info_parts infoB
  exact ap_any Tryz.underlying29 hi hz0 hz1 hz2 rfl (by decide) hown hr (bys_one _) hb hbase (by omega) hs hx hw (fun v' w' h1 h2 h3 h4 => h v' w' (by rw [bys_app]; exact h1) h2 h3 h4)
/-- b[l:h] of bytes, at this program. -/
theorem cut_bys {w : World} {ops : Array Oper} {rest : List Oper} {a : Act} {Q : Exit → Act → World → Prop} {d : Option Tmp} {ty : TypeId} {pos : String} {af : Array Edge} {g : Option (Nat × Bool)} {s lo hi : Operand}
    {A : Option Addr} {n c B : Nat} {xs : List UInt8} (hr : Rd w B 1 A n (bys xs)) (hnc : n ≤ c) {kl kh : IntKind} {xl xh : Int} (l m : Nat) (hc : l + m ≤ n)
    (hs : a.eval s = .slice A n c) (hl : a.eval lo = .int kl xl) (hh : a.eval hi = .int kh xh) (el : xl = l) (eh : xh = (l + m : Nat))
    (hw : Region.wanted { dst := d, op := .slice 29 s (some lo) (some hi) none, type := ty, pos := pos, after := af, guard := g } (yielded ops a.tmps) = true)
    (h : ∀ A' c', Rd w B 1 A' m (bys ((xs.drop l).take m)) → m ≤ c' → c' ≤ c → wpList Tryz.prog ops Q rest (a.put d (.slice A' m c')) w) :
    wpList Tryz.prog ops Q ({ dst := d, op := .slice 29 s (some lo) (some hi) none, type := ty, pos := pos, after := af, guard := g } :: rest) a w := by
  obtain ⟨i0, hi, hz0, hz1, hz2⟩ := info_parts infoB
  exact slice_lh Tryz.underlying29 hi hz1 l m (by omega) hs hl hh el eh hw (fun A' c' h1 h2 h3 => h A' c' (hr.bcut hc (fun hm => by simpa using h1 hm)) h2 h3)

end Go.Proofs.YtknjopefbbldfaaGreatDoor
