/- The builtin copy of bytes into a block that is known whole. -/
import Derived.Test.YtknjopefbbldfaaGreatDoorMem
import Derived.Laws.CopyOwn
namespace Go.Proofs.YtknjopefbbldfaaGreatDoor
open Go.RowKit

theorem infoSzB : (Tryz.prog.info? 5).map (·.size) = some 1 := by kernel_rfl
/-- l laid over L from a place on. -/
def lay (L : List UInt8) (off : Nat) (l : List UInt8) : List UInt8 := L.take off ++ (l ++ L.drop (off + l.length))
theorem lay_len (L : List UInt8) (off : Nat) (l : List UInt8) (h : off + l.length ≤ L.length) : (lay L off l).length = L.length := by
  simp [lay]; omega
theorem splice_bys (L : List UInt8) (off : Nat) (l : List UInt8) : splice (bys L) off (bys l) = bys (lay L off l) := by
  simp [splice, lay, bys, List.map_take, List.map_drop]
/-- copy of bytes. -/
theorem copy_bys {w w0 : World} {ops : Array Oper} {rest : List Oper} {a : Act} {Q : Exit → Act → World → Prop} {d : Option Tmp} {ty : TypeId} {pos : String} {af : Array Edge} {s x : Operand}
    {B B' n c g off dl dc : Nat} {A : Option Addr} {t : TypeId} {L l : List UInt8} (hg : Bk w g t (bys L).toArray) (hr : Rd w B' 1 A n (bys l)) (k : Nat) (hk : k = Nat.min n dl) (hfit : off + k ≤ L.length)
    (hs : a.eval s = .slice (some ⟨g, off, none⟩) dl dc) (hx : a.eval x = .slice A n c) (hb : Below B w0 w) (hBg : B ≤ g)
    (h : ∀ w', Bk w' g t (bys (lay L off (l.take k))).toArray → Below B w0 w' → wpList Tryz.prog ops Q rest (a.put d (.int .i64 (k : Int))) w') :
    wpList Tryz.prog ops Q ({ dst := d, op := .call { callee := .builtin .copy, args := #[s, x], argTypes := #[29, 29] }, type := ty, pos := pos, after := af, guard := none } :: rest) a w := by
  have hl := hr.blen
  have hkn : k ≤ n := by rw [hk]; exact Nat.min_le_left _ _
  have hlen : (bys (l.take k)).length = k := by rw [bys_len, List.length_take]; omega
  refine wpList_copy_splice rfl s x _ _ rfl 5 Tryz.underlying29 infoSzB _ _ _ _ _ _ hs hx g off (bys L) t hg (bys (l.take k)) (by rw [hlen, hk]) ?_ (by rw [hlen, bys_len]; exact hfit) (bys_one _) B w0 hb hBg ?_
  · intro hp
    rw [hlen] at hp
    obtain ⟨b, o, rfl, _, hc⟩ := hr.2 (by omega)
    refine ⟨rfl, _, rfl, fun j v hj => ?_⟩
    rw [addLit]
    rw [← bys_take, List.getElem?_take] at hj
    split at hj
    · exact hc j v hj
    · cases hj
  · intro w' hw' hb'
    rw [hlen]
    rw [splice_bys] at hw'
    exact h w' hw' hb'
/-- Likewise, at a step of a region that draws its order. -/
theorem copy_step {w w0 : World} {ops : Array Oper} {a : Act} {K : Act → World → Prop} {Q : Exit → Act → World → Prop} {E : Prop} {d : Option Tmp} {ty : TypeId} {pos : String} {af : Array Edge} {s x : Operand}
    {B B' n c g off dl dc : Nat} {A : Option Addr} {t : TypeId} {L l : List UInt8} (hg : Bk w g t (bys L).toArray) (hr : Rd w B' 1 A n (bys l)) (k : Nat) (hk : k = Nat.min n dl) (hfit : off + k ≤ L.length)
    (hs : a.eval s = .slice (some ⟨g, off, none⟩) dl dc) (hx : a.eval x = .slice A n c) (hb : Below B w0 w) (hBg : B ≤ g)
    (h : ∀ w', Bk w' g t (bys (lay L off (l.take k))).toArray → Below B w0 w' → K (a.put d (.int .i64 (k : Int))) w') :
    if Region.wanted { dst := d, op := .call { callee := .builtin .copy, args := #[s, x], argTypes := #[29, 29] }, type := ty, pos := pos, after := af, guard := none } (yielded ops a.tmps) = true then
      Oper.wp Tryz.prog { dst := d, op := .call { callee := .builtin .copy, args := #[s, x], argTypes := #[29, 29] }, type := ty, pos := pos, after := af, guard := none } a w K Q else E := by
  have hl := hr.blen
  have hkn : k ≤ n := by rw [hk]; exact Nat.min_le_left _ _
  have hlen : (bys (l.take k)).length = k := by rw [bys_len, List.length_take]; omega
  refine step_copy_splice rfl s x _ _ rfl 5 Tryz.underlying29 infoSzB _ _ _ _ _ _ hs hx g off (bys L) t hg (bys (l.take k)) (by rw [hlen, hk]) ?_ (by rw [hlen, bys_len]; exact hfit) (bys_one _) B w0 hb hBg ?_
  · intro hp
    rw [hlen] at hp
    obtain ⟨b, o, rfl, _, hc⟩ := hr.2 (by omega)
    refine ⟨rfl, _, rfl, fun j v hj => ?_⟩
    rw [addLit]
    rw [← bys_take, List.getElem?_take] at hj
    split at hj
    · exact hc j v hj
    · cases hj
  · intro w' hw' hb'
    rw [hlen]
    rw [splice_bys] at hw'
    exact h w' hw' hb'
/-- append of bytes, at a step of a region that draws its order. -/
theorem ap_step {w w0 : World} {ops : Array Oper} {a : Act} {K : Act → World → Prop} {Q : Exit → Act → World → Prop} {E : Prop} {d : Option Tmp} {ty : TypeId} {pos : String} {af : Array Edge} {s x : Operand} {base : Nat}
    {v : Value} {n : Nat} {xs : List UInt8} {B : Nat} {A : Option Addr} {m c : Nat} {news : List UInt8} (hown : w.ownsRow base 5 1 v n (bys xs)) (hr : Rd w B 1 A m (bys news))
    (hb : Below base w0 w) (hbase : base ≤ w.heap.size) (hbytes : n + m ≤ 140737488355328)
    (hs : a.eval s = v) (hx : a.eval x = .slice A m c)
    (h : ∀ v' w', w'.ownsRow base 5 1 v' (n + m) (bys (xs ++ news)) → Below base w0 w' → w.grownBy w' v.ownBlock → (v'.ownBlock = v.ownBlock ∨ v'.ownBlock = some w.heap.size) → K (a.put d v') w') :
    if Region.wanted { dst := d, op := .call { callee := .builtin .append, args := #[s, x], argTypes := #[29, 29] }, type := ty, pos := pos, after := af, guard := none } (yielded ops a.tmps) = true then
      Oper.wp Tryz.prog { dst := d, op := .call { callee := .builtin .append, args := #[s, x], argTypes := #[29, 29] }, type := ty, pos := pos, after := af, guard := none } a w K Q else E := by
  obtain ⟨i0, hi, hz0, hz1, hz2⟩ := info_parts infoB
  rw [if_pos (by simp [Region.wanted])]
  obtain ⟨v', w', hrun, h2, h3, h4⟩ := run_append_rd (P := Tryz.prog) w base 29 ty 5 i0 (.int .u8 0) 1 1 Tryz.underlying29 hi hz0 hz1 hz2 rfl (by decide) v n (bys xs) hown B A m c (bys news) hr (bys_one _) (by unfold maxLen; omega) (by omega) hbase
  unfold Oper.wp execOp
  simp only [resolve, invoke, builtin, Sem.run_bind, Sem.run_pure, Result.andThen_ok, List.map_toArray, List.map_cons, List.map_nil, hs, hx, hrun]
  exact h v' w' (by rw [bys_app]; exact h2) (hb.grown h3 hbase (fun k hk => (hown.lt k hk).1)) h3 h4
end Go.Proofs.YtknjopefbbldfaaGreatDoor
