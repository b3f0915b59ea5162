/- The frame of a law's proof: arguments opened to what the walk is told of them; and the row's last step, where the call has only made memory. -/
import Derived.Test.YtoadamkmabkldaaGreatDoorJn00
import Derived.Deep.Slices
import Derived.SizedLaws
import Derived.Test.YtoadamkmabkldaaGreatDoorJn12
import Derived.Test.YtoadamkmabkldaaGreatDoorJn03
set_option linter.unusedVariables false
set_option linter.unusedSimpArgs false
namespace Go.Proofs.YtoadamkmabkldaaGreatDoor
open Go.RowKit Go.ChangeShapes Go.WideShapes Go.ChangeAt

section
variable {H : Type} {enc : TypeId × Value → H} {P : Program}
theorem trodAll_below (hl : laidOutB P = true) {W W' : World} (hb : Below W.heap.size W W') :
    ∀ (ts : List TypeId) (vs : List Value) (ds : List (DataW H)) (p : List MemPlace), (ts.all fun t => P.readableRec t && decide (t < P.types.size)) = true →
      DataW.TrodAll enc P W 0 (fun _ => true) true ts vs ds p → (∀ x ∈ p, x.block < W.heap.size) →
      DataW.TrodAll enc P W' 0 (fun b => decide (b < W.heap.size)) true ts vs ds p
  | [], [], [], p, _, h, _ => h
  | t :: ts, v :: vs, d :: ds, p, hr, h, hlt => by
    obtain ⟨p1, q1, h1, h2, rfl⟩ := h
    simp only [List.all_cons, Bool.and_eq_true, decide_eq_true_eq] at hr
    exact ⟨p1, q1, Below.trod hl hr.1.1 hr.1.2 h1 hb (fun x hx => hlt x (List.mem_append_left _ hx)),
      trodAll_below hl hb ts vs ds q1 (by simpa using hr.2) h2 (fun x hx => hlt x (List.mem_append_right _ hx)), rfl⟩
  | [], [], _ :: _, _, _, h, _ => h.elim
  | [], _ :: _, _, _, _, h, _ => by simp [DataW.TrodAll] at h
  | _ :: _, [], _, _, _, h, _ => by simp [DataW.TrodAll] at h
  | _ :: _, _ :: _, [], _, _, h, _ => by simp [DataW.TrodAll] at h

variable {W : World} {base : Nat} {v : Value} {d : DataW H} {p : List MemPlace} {t e : TypeId} {k : IntKind} {r : Reach}
theorem open_sl (ht : P.underlying t = some (.slice e)) (he : P.underlying e = some (.int k)) (hc : P.cellsOf e = 1) (hv : Value.okWide P W r base t v)
    (h : DataW.Trod enc P W 0 (fun _ => true) true t v d p) :
    ∃ (A : Option Addr) (n c : Nat) (zs : List Int), v = .slice A n c ∧ Rd W W.heap.size 1 A n (zs.map (Value.int k)) ∧ n ≤ c ∧ c ≤ maxLen ∧ ∀ z ∈ zs, (Lit.int k z).wf = true := by
  obtain ⟨a0, len0, cap0, rfl⟩ := okWide_slice ht hv
  obtain ⟨fuel, hf⟩ := h
  rcases open_ints ht he hc hf with ⟨hcs, _⟩ | ⟨x, l, c, zs, hcs, _, hl, hm, hz, _, hcell, hwz⟩
  · simp [Value.cells] at hcs
    obtain ⟨rfl, rfl, rfl⟩ := hcs
    exact ⟨none, 0, 0, [], rfl, Rd.nil_, Nat.le_refl _, Nat.zero_le _, by simp⟩
  · simp [Value.cells] at hcs
    obtain ⟨rfl, rfl, rfl⟩ := hcs
    simp only [if_true] at hz
    refine ⟨some x, len0, cap0, zs.take len0, rfl, ⟨by simp; omega, fun hn => ?_⟩, hl, hm, fun z hz' => hwz z (List.mem_of_mem_take hz')⟩
    obtain ⟨b, o, sp⟩ := x
    have h0 := hcell 0 (by omega)
    have hsp : sp = none := by simpa [Addr.add] using World.cell?_spot h0
    subst hsp
    refine ⟨b, o, rfl, by rw [addLit] at h0; exact World.block_lt_of_cell? W _ h0, fun j u hu => ?_⟩
    simp only [List.getElem?_map, Option.map_eq_some_iff] at hu
    obtain ⟨y, hy, rfl⟩ := hu
    rw [List.getElem?_take] at hy
    split at hy
    · have hj : j < zs.length := by omega
      have := hcell j hj
      rw [addLit] at this
      rw [this, List.getD_eq_getElem?_getD, hy]; rfl
    · cases hy
theorem wf_byte {z : Int} (h : (Lit.int .u8 z).wf = true) : 0 ≤ z ∧ z ≤ 255 := bounds_u8 h
theorem to_bys (zs : List Int) (h : ∀ z ∈ zs, (Lit.int .u8 z).wf = true) : ∃ l : List UInt8, zs.map (Value.int .u8) = bys l := by
  induction zs with
  | nil => exact ⟨[], rfl⟩
  | cons z r ih =>
    obtain ⟨l, hl⟩ := ih fun y hy => h y (List.mem_cons_of_mem _ hy)
    have := wf_byte (h z List.mem_cons_self)
    refine ⟨UInt8.ofNat z.toNat :: l, ?_⟩
    simp only [List.map_cons, bys, hl]
    congr 2
    simp only [UInt8.toNat_ofNat']
    omega
theorem open_bys (ht : P.underlying t = some (.slice e)) (he : P.underlying e = some (.int .u8)) (hc : P.cellsOf e = 1) (hv : Value.okWide P W r base t v)
    (h : DataW.Trod enc P W 0 (fun _ => true) true t v d p) :
    ∃ (A : Option Addr) (n c : Nat) (l : List UInt8), v = .slice A n c ∧ Rd W W.heap.size 1 A n (bys l) ∧ n ≤ c ∧ c ≤ maxLen := by
  obtain ⟨A, n, c, zs, rfl, hr, hnc, hcm, hw⟩ := open_sl ht he hc hv h
  obtain ⟨l, hl⟩ := to_bys zs hw
  exact ⟨A, n, c, l, rfl, by rw [← hl]; exact hr, hnc, hcm⟩
theorem open_its (ht : P.underlying t = some (.slice e)) (he : P.underlying e = some (.int .i64)) (hc : P.cellsOf e = 1) (hv : Value.okWide P W r base t v)
    (h : DataW.Trod enc P W 0 (fun _ => true) true t v d p) :
    ∃ (A : Option Addr) (n c : Nat) (l : List Int), v = .slice A n c ∧ Rd W W.heap.size 1 A n (its l) ∧ n ≤ c ∧ c ≤ maxLen ∧ ∀ z ∈ l, -9223372036854775808 ≤ z ∧ z ≤ 9223372036854775807 := by
  obtain ⟨A, n, c, zs, rfl, hr, hnc, hcm, hw⟩ := open_sl ht he hc hv h
  exact ⟨A, n, c, zs, rfl, hr, hnc, hcm, fun z hz => bounds_i64 (hw z hz)⟩
/-- Bytes, out of a reading alone. -/
theorem read_bys {fuel : Nat} {x : DataW H × List MemPlace} (ht : P.underlying t = some (.slice e)) (he : P.underlying e = some (.int .u8)) (hc : P.cellsOf e = 1) (hf : DataW.trod enc P W 0 (fun _ => true) true fuel t [v] = some x) :
    ∃ l, RdB W W.heap.size v l := by
  rcases open_ints ht he hc hf with ⟨hcs, _⟩ | ⟨a, n, c, zs, hcs, _, hl, hm, hz, _, hcell, hwz⟩
  · injection hcs with hcs
    subst hcs
    exact ⟨[], none, 0, 0, rfl, Rd.empty, Nat.le_refl _⟩
  · injection hcs with hcs
    subst hcs
    simp only [if_true] at hz
    obtain ⟨l, hl2⟩ := to_bys (zs.take n) (fun z hz' => hwz z (List.mem_of_mem_take hz'))
    refine ⟨l, some a, n, c, rfl, ⟨by rw [← hl2]; simp; omega, fun hn => ?_⟩, hl⟩
    obtain ⟨b, o, sp⟩ := a
    have h0 := hcell 0 (by omega)
    have hsp : sp = none := by simpa [Addr.add] using World.cell?_spot h0
    subst hsp
    refine ⟨b, o, rfl, by rw [addLit] at h0; exact World.block_lt_of_cell? W _ h0, fun j u hu => ?_⟩
    rw [← hl2] at hu
    simp only [List.getElem?_map, Option.map_eq_some_iff] at hu
    obtain ⟨y, hy, rfl⟩ := hu
    rw [List.getElem?_take] at hy
    split at hy
    · have hj : j < zs.length := by omega
      have := hcell j hj
      rw [addLit] at this
      rw [this, List.getD_eq_getElem?_getD, hy]; rfl
    · cases hy
theorem open_rows {tb : TypeId} (ht : P.underlying t = some (.slice tb)) (htb : P.underlying tb = some (.slice e)) (he : P.underlying e = some (.int .u8)) (hc1 : P.cellsOf tb = 1) (hc : P.cellsOf e = 1) (hv : Value.okWide P W r base t v)
    (h : DataW.Trod enc P W 0 (fun _ => true) true t v d p) :
    ∃ (A : Option Addr) (n c : Nat) (ls : List (List UInt8)), v = .slice A n c ∧ RdRows W W.heap.size A n ls ∧ n ≤ c ∧ c ≤ maxLen := by
  obtain ⟨a0, len0, cap0, rfl⟩ := okWide_slice ht hv
  obtain ⟨fuel, hf⟩ := h
  rcases Deep.open_slice1 ht hc1 hf with ⟨hcs, _⟩ | ⟨x, n, c, m, k, V, D, Pl, hcs, _, hl, hm, hmm, _, hi⟩
  · simp [Value.cells] at hcs
    obtain ⟨rfl, rfl, rfl⟩ := hcs
    exact ⟨none, 0, 0, [], rfl, ⟨[], Rd.nil_, rfl, fun i v l hv _ => by simp at hv⟩, Nat.le_refl _, Nat.zero_le _⟩
  · simp [Value.cells] at hcs
    obtain ⟨rfl, rfl, rfl⟩ := hcs
    simp only [if_true] at hmm
    obtain ⟨L, hL⟩ := Deep.choose_lt (n := len0) (α := List UInt8) (p := fun i l => RdB W W.heap.size (V i) l) (fun i hi' => read_bys htb he hc (hi i (by omega)).2)
    refine ⟨some x, len0, cap0, (List.range len0).map L, rfl, ⟨(List.range len0).map V, ⟨by simp, fun hn => ?_⟩, by simp, fun i v l hv' hl' => ?_⟩, hl, hm⟩
    · obtain ⟨b, o, sp⟩ := x
      have h0 := (hi 0 (by omega)).1
      have hsp : sp = none := by simpa [Addr.add] using World.cell?_spot h0
      subst hsp
      refine ⟨b, o, rfl, by rw [addLit] at h0; exact World.block_lt_of_cell? W _ h0, fun j u hu => ?_⟩
      simp only [List.getElem?_map, Option.map_eq_some_iff] at hu
      obtain ⟨y, hy, rfl⟩ := hu
      have hjl : j < len0 := by
        rcases Nat.lt_or_ge j len0 with h | h
        · exact h
        · rw [List.getElem?_eq_none (by simpa using h)] at hy; cases hy
      rw [List.getElem?_range hjl] at hy
      injection hy with hy
      subst hy
      have := (hi j (by omega)).1
      rwa [addLit] at this
    · simp only [List.getElem?_map, Option.map_eq_some_iff] at hv' hl'
      obtain ⟨y, hy, rfl⟩ := hv'
      obtain ⟨y', hy', rfl⟩ := hl'
      rw [hy] at hy'
      injection hy' with hy'
      subst hy'
      have : y < len0 := by have := List.mem_of_getElem? hy; simpa using this
      exact hL y this
/-- The form's own reach, of a slice that came in. -/
theorem cap_reach {ts : List TypeId} {ds : List (DataW H)} {A : Option Addr} {n c j : Nat} (hsz : (DataW.weightsEach P ts ds).all (· ≤ reachBytes) = true) (hj : ts[j]? = some t) (hd : ds[j]? = some d) (ht : P.underlying t = some (.slice e))
    (h : DataW.Trod enc P W 0 (fun _ => true) true t (.slice A n c) d p) : c * P.bytesOf e ≤ 140737488351232 := by
  obtain ⟨fuel, hf⟩ := h
  rcases DataW.trod_slice ht hf with ⟨hcs, _⟩ | ⟨a, len, cap, elems, rest, k, _, hcs, hx, _, hl, _, hlen, _, hsp, _⟩
  · simp [Value.cells] at hcs
    obtain ⟨_, _, rfl⟩ := hcs
    omega
  · simp [Value.cells] at hcs
    obtain ⟨_, rfl, rfl⟩ := hcs
    injection hx with hx1 _
    rw [hx1] at hd
    have h1 := sized_slice hsz hj hd ht
    have h2 := (hsp rfl).1
    have h3 : reachBytes = 140737488351232 := rfl
    simp only [List.length_map] at h1
    rw [hlen, h2, h3] at h1
    have h4 : n + (c - n) = c := by omega
    rwa [h4] at h1
theorem mapM_some_mem {α β : Type} {f : α → Option β} : ∀ (L : List α) (ys : List β), L.mapM f = some ys → ∀ i ∈ L, ∃ y, f i = some y
  | [], _, _, i, hi => by simp at hi
  | x :: L, ys, h, i, hi => by
    rw [List.mapM_cons] at h
    simp only [bind, Option.bind_eq_some_iff, pure, Option.some.injEq] at h
    obtain ⟨y, hy, zs, hzs, _⟩ := h
    rcases List.mem_cons.1 hi with rfl | hi
    · exact ⟨y, hy⟩
    · exact mapM_some_mem L zs hzs i hi
/-- An array of numbers, by value. -/
theorem open_arr {n : Nat} (ht : P.underlying t = some (.array n e)) (he : P.underlying e = some (.int k)) (hct : P.cellsOf t = n) (hce : P.cellsOf e = 1) (hv : Value.okWide P W r base t v) (h : DataW.Trod enc P W 0 (fun _ => true) true t v d p) :
    ∃ zs : List Int, v = .agg (zs.map (Value.int k)).toArray ∧ zs.length = n ∧ ∀ z ∈ zs, (Lit.int k z).wf = true := by
  simp only [Value.okWide, ht] at hv
  obtain ⟨cs, rfl, hsz, _⟩ := hv
  rw [hct] at hsz
  obtain ⟨fuel, hf⟩ := h
  cases fuel with
  | zero => simp [DataW.trod] at hf
  | succ m =>
    rw [DataW.trod_step] at hf
    unfold DataW.trodStep at hf
    simp only [ht, Value.cells] at hf
    rw [if_pos (by rw [hct]; simpa using hsz)] at hf
    simp only [Option.map_eq_some_iff] at hf
    obtain ⟨ys, hy, _⟩ := hf
    have each : ∀ i, i < n → ∃ z : Int, cs[i]? = some (.int k z) ∧ (Lit.int k z).wf = true := by
      intro i hi
      obtain ⟨y, hy2⟩ := mapM_some_mem _ _ hy i (List.mem_range.2 hi)
      rw [hce, Nat.mul_one] at hy2
      obtain ⟨z, h1, _, h3⟩ := DataW.trod_int he hy2
      refine ⟨z, ?_, h3⟩
      have hil : i < cs.toList.length := by simpa using (by omega : i < cs.size)
      rw [List.drop_eq_getElem_cons hil] at h1
      simp at h1
      rw [Array.getElem?_eq_getElem (by simpa using hil), h1]
    obtain ⟨Z, hZ⟩ := Deep.choose_lt each
    refine ⟨(List.range n).map Z, ?_, by simp, fun z hz => ?_⟩
    · congr 1
      apply Array.ext_getElem?
      intro i
      by_cases hi : i < n
      · rw [(hZ i hi).1]; simp [hi]
      · have h1 : cs.size ≤ i := by omega
        have h2 : (((List.range n).map Z).map (Value.int k)).toArray.size ≤ i := by simp; omega
        rw [Array.getElem?_eq_none h1, Array.getElem?_eq_none h2]
    · simp only [List.mem_map, List.mem_range] at hz
      obtain ⟨i, hi, rfl⟩ := hz
      exact (hZ i hi).2
theorem open_two (ht : P.underlying t = some (.array 2 e)) (he : P.underlying e = some (.int k)) (hct : P.cellsOf t = 2) (hce : P.cellsOf e = 1) (hv : Value.okWide P W r base t v) (h : DataW.Trod enc P W 0 (fun _ => true) true t v d p) :
    ∃ a b : Int, v = .agg #[.int k a, .int k b] ∧ (Lit.int k a).wf = true ∧ (Lit.int k b).wf = true := by
  obtain ⟨zs, rfl, hl, hz⟩ := open_arr ht he hct hce hv h
  match zs, hl with
  | [a, b], _ => exact ⟨a, b, rfl, hz a (by simp), hz b (by simp)⟩
theorem open_six (ht : P.underlying t = some (.array 6 e)) (he : P.underlying e = some (.int k)) (hct : P.cellsOf t = 6) (hce : P.cellsOf e = 1) (hv : Value.okWide P W r base t v) (h : DataW.Trod enc P W 0 (fun _ => true) true t v d p) :
    ∃ a0 a1 a2 a3 a4 a5 : Int, v = .agg #[.int k a0, .int k a1, .int k a2, .int k a3, .int k a4, .int k a5] ∧ ((Lit.int k a0).wf = true ∧ (Lit.int k a1).wf = true ∧ (Lit.int k a2).wf = true ∧ (Lit.int k a3).wf = true ∧ (Lit.int k a4).wf = true ∧ (Lit.int k a5).wf = true) := by
  obtain ⟨zs, rfl, hl, hz⟩ := open_arr ht he hct hce hv h
  match zs, hl with
  | [a0, a1, a2, a3, a4, a5], _ => exact ⟨a0, a1, a2, a3, a4, a5, rfl, hz a0 (by simp), hz a1 (by simp), hz a2 (by simp), hz a3 (by simp), hz a4 (by simp), hz a5 (by simp)⟩
end
end Go.Proofs.YtoadamkmabkldaaGreatDoor
/- A slice of structures, each of some ints and, last, a slice of bytes. -/
namespace Go.Proofs.YtoadamkmabkldaaGreatDoor
open Go.RowKit Go.ChangeShapes Go.WideShapes Go.ChangeAt

def i64B (z : Int) : Prop := -9223372036854775808 ≤ z ∧ z ≤ 9223372036854775807
/-- The slice reads as these pieces: m ints each, and bytes. -/
def RdPcs (w : World) (B m : Nat) (A : Option Addr) (n : Nat) (ls : List (List Int × List UInt8)) : Prop :=
  ls.length = n ∧ (0 < n → ∃ b o, A = some ⟨b, o, none⟩ ∧ b < B ∧ ∀ i p, ls[i]? = some p → p.1.length = m ∧ (∀ z ∈ p.1, i64B z) ∧
    (∀ k z, p.1[k]? = some z → w.cell? ⟨b, o + i * (m + 1) + k, none⟩ = some (.int .i64 z)) ∧ ∃ v, w.cell? ⟨b, o + i * (m + 1) + m, none⟩ = some v ∧ RdB w B v p.2)
section
variable {w w' : World} {B m n : Nat} {A : Option Addr} {ls : List (List Int × List UInt8)}
theorem RdPcs.keep (h : RdPcs w B m A n ls) (hk : ∀ p : Addr, p.block < B → w'.cell? p = w.cell? p) : RdPcs w' B m A n ls := by
  refine ⟨h.1, fun hn => ?_⟩
  obtain ⟨b, o, hA, hb, hc⟩ := h.2 hn
  refine ⟨b, o, hA, hb, fun i p hp => ?_⟩
  obtain ⟨h1, h2, h3, v, h4, h5⟩ := hc i p hp
  exact ⟨h1, h2, fun k z hz => (hk _ hb).trans (h3 k z hz), v, (hk _ hb).trans h4, h5.keep hk⟩
theorem RdPcs.more {B' : Nat} (h : RdPcs w B m A n ls) (hB : B ≤ B') : RdPcs w B' m A n ls := by
  refine ⟨h.1, fun hn => ?_⟩
  obtain ⟨b, o, hA, hb, hc⟩ := h.2 hn
  refine ⟨b, o, hA, by omega, fun i p hp => ?_⟩
  obtain ⟨h1, h2, h3, v, h4, h5⟩ := hc i p hp
  exact ⟨h1, h2, h3, v, h4, h5.more hB⟩
theorem RdPcs.below {C : Nat} (h : RdPcs w B m A n ls) (hb : Below C w w') (hC : B ≤ C) : RdPcs w' B m A n ls := h.keep fun _ hp => hb.cell (by omega)
theorem RdPcs.at_ (h : RdPcs w B m A n ls) {i : Nat} (hi : i < n) : ∃ b o p, A = some ⟨b, o, none⟩ ∧ b < B ∧ ls[i]? = some p ∧ p.1.length = m ∧ (∀ z ∈ p.1, i64B z) ∧
    (∀ k z, p.1[k]? = some z → w.cell? ⟨b, o + i * (m + 1) + k, none⟩ = some (.int .i64 z)) ∧ ∃ v, w.cell? ⟨b, o + i * (m + 1) + m, none⟩ = some v ∧ RdB w B v p.2 := by
  obtain ⟨b, o, hA, hb, hc⟩ := h.2 (by omega)
  have hl : ls[i]? = some (ls[i]'(by have := h.1; omega)) := List.getElem?_eq_getElem _
  exact ⟨b, o, _, hA, hb, hl, hc i _ hl⟩
end

section
variable {H : Type} {enc : TypeId × Value → H} {P : Program} {W : World} {base : Nat} {v : Value} {d : DataW H} {p : List MemPlace} {t e : TypeId} {r : Reach}
theorem open_pcs (m : Nat) (hm0 : 0 < m) {fs : Array Field} (ht : P.underlying t = some (.slice e)) (he : P.underlying e = some (.struct fs)) (hce : P.cellsOf e = m + 1)
    (hint : ∀ k, k < m → ∃ f, fs[k]? = some f ∧ f.offset = k ∧ P.cellsOf f.type = 1 ∧ P.underlying f.type = some (.int .i64))
    (hlast : ∃ f, fs[m]? = some f ∧ f.offset = m ∧ P.cellsOf f.type = 1 ∧ ∃ eb, P.underlying f.type = some (.slice eb) ∧ P.underlying eb = some (.int .u8) ∧ P.cellsOf eb = 1)
    (hv : Value.okWide P W r base t v) (h : DataW.Trod enc P W 0 (fun _ => true) true t v d p) :
    ∃ (A : Option Addr) (n c : Nat) (ls : List (List Int × List UInt8)), v = .slice A n c ∧ RdPcs W W.heap.size m A n ls ∧ n ≤ c ∧ c ≤ maxLen := by
  obtain ⟨a0, len0, cap0, rfl⟩ := okWide_slice ht hv
  obtain ⟨fuel, hf⟩ := h
  rcases Deep.open_slice ht hf with ⟨hcs, _⟩ | ⟨x, n, c, mm, k, D, Pl, hcs, _, hl, hm, hmm, _, hi⟩
  · simp [Value.cells] at hcs
    obtain ⟨rfl, rfl, rfl⟩ := hcs
    exact ⟨none, 0, 0, [], rfl, ⟨rfl, fun h => by omega⟩, Nat.le_refl _, Nat.zero_le _⟩
  · simp [Value.cells] at hcs
    obtain ⟨rfl, rfl, rfl⟩ := hcs
    simp only [if_true] at hmm
    have each : ∀ i, i < len0 → ∃ q : List Int × List UInt8, q.1.length = m ∧ (∀ z ∈ q.1, i64B z) ∧
        (∀ k z, q.1[k]? = some z → W.cell? ((x.add (i * (m + 1))).add k) = some (.int .i64 z)) ∧ ∃ v, W.cell? ((x.add (i * (m + 1))).add m) = some v ∧ RdB W W.heap.size v q.2 := by
      intro i hil
      obtain ⟨cs', h1, h2⟩ := hi i (by omega)
      rw [hce] at h1
      obtain ⟨_, hlen, hcell⟩ := World.cells?_some h1
      obtain ⟨xs, k', _, _, _, hxl, hfx⟩ := DataW.trod_struct he h2
      have hz : ∀ k, k < m → ∃ z : Int, cs'[k]? = some (.int .i64 z) ∧ i64B z := by
        intro k hk
        obtain ⟨f, hf1, hf2, hf3, hf4⟩ := hint k hk
        have hk2 : k < xs.length := by
          rw [hxl]; rcases Nat.lt_or_ge k fs.size with h | h
          · exact h
          · rw [Array.getElem?_eq_none h] at hf1; cases hf1
        have g := hfx k f hf1
        rw [hf2, hf3, List.getElem?_eq_getElem hk2] at g
        obtain ⟨z, hz1, _, hz3⟩ := DataW.trod_int hf4 g
        refine ⟨z, ?_, bounds_i64 hz3⟩
        have hkc : k < cs'.length := by omega
        have hd : (cs'.drop k).take 1 = [cs'[k]] := by rw [List.drop_eq_getElem_cons hkc]; rfl
        rw [hd] at hz1
        injection hz1 with hz1
        rw [List.getElem?_eq_getElem hkc, hz1]
      obtain ⟨Z, hZ⟩ := Deep.choose_lt hz
      obtain ⟨f, hf1, hf2, hf3, eb, hf4, hf5, hf6⟩ := hlast
      have hk2 : m < xs.length := by
        rw [hxl]; rcases Nat.lt_or_ge m fs.size with h | h
        · exact h
        · rw [Array.getElem?_eq_none h] at hf1; cases hf1
      have g := hfx m f hf1
      have hmc : m < cs'.length := by omega
      have hd : (cs'.drop m).take 1 = [cs'[m]] := by rw [List.drop_eq_getElem_cons hmc]; rfl
      rw [hf2, hf3, List.getElem?_eq_getElem hk2, hd] at g
      obtain ⟨l, hl'⟩ := read_bys hf4 hf5 hf6 g
      refine ⟨((List.range m).map Z, l), by simp, ?_, ?_, cs'[m], ?_, hl'⟩
      · intro z hz'
        simp only [List.mem_map, List.mem_range] at hz'
        obtain ⟨k, hk, rfl⟩ := hz'
        exact (hZ k hk).2
      · intro k z hkz
        simp only [List.getElem?_map, Option.map_eq_some_iff] at hkz
        obtain ⟨y, hy, rfl⟩ := hkz
        have hkm : k < m := by
          rcases Nat.lt_or_ge k m with h | h
          · exact h
          · rw [List.getElem?_eq_none (by simpa using h)] at hy; cases hy
        rw [List.getElem?_range hkm] at hy
        injection hy with hy
        subst hy
        have := hcell k (by omega)
        rw [(hZ k hkm).1] at this
        exact this
      · have := hcell m (by omega)
        rw [List.getElem?_eq_getElem hmc] at this
        exact this
    obtain ⟨L, hL⟩ := Deep.choose_lt each
    refine ⟨some x, len0, cap0, (List.range len0).map L, rfl, ⟨by simp, fun hn => ?_⟩, hl, hm⟩
    obtain ⟨b, o, sp⟩ := x
    obtain ⟨z0, hz0⟩ : ∃ z, (L 0).1[0]? = some z := ⟨_, List.getElem?_eq_getElem (by have := (hL 0 hn).1; omega)⟩
    have hv0 := (hL 0 hn).2.2.1 0 z0 hz0
    have hsp : sp = none := by
      have := World.cell?_spot hv0
      simpa [Addr.add] using this
    subst hsp
    refine ⟨b, o, rfl, by rw [addLit, addLit] at hv0; exact World.block_lt_of_cell? W _ hv0, fun i q hq => ?_⟩
    simp only [List.getElem?_map, Option.map_eq_some_iff] at hq
    obtain ⟨y, hy, rfl⟩ := hq
    have hin : i < len0 := by
      rcases Nat.lt_or_ge i len0 with h | h
      · exact h
      · rw [List.getElem?_eq_none (by simpa using h)] at hy; cases hy
    rw [List.getElem?_range hin] at hy
    injection hy with hy
    subst hy
    obtain ⟨h1, h2, h3, v, h4, h5⟩ := hL i hin
    refine ⟨h1, h2, fun k z hz => ?_, v, ?_, h5⟩
    · have := h3 k z hz
      rwa [addLit, addLit] at this
    · rwa [addLit, addLit] at h4
end
end Go.Proofs.YtoadamkmabkldaaGreatDoor
/- Contracts of package wal: Size, rising. -/
namespace Go.Proofs.YtoadamkmabkldaaGreatDoor
open Go.RowKit

/-- How many bytes a batch has. -/
def wsz (n : Int) : Int := if n < 0 ∨ 4096 < n then 0 else 12 + 516 * n
theorem wsize_any (n : Int) (w : World) : Calls Tryz.prog 60 #[.int .i64 n] w fun e w' => e = .returned (.int .i64 (wsz n)) ∧ w = w' := by
  by_cases h0 : n < 0
  · go_enter Tryz.func60, Tryz.ntmps60
    go_wp2
    go_ret
    exact ⟨ret_int (by unfold wsz; rw [if_pos (.inl h0)]), rfl⟩
  · by_cases h1 : 4096 < n
    · go_enter Tryz.func60, Tryz.ntmps60
      go_wp2
      go_ret
      exact ⟨ret_int (by unfold wsz; rw [if_pos (.inr h1)]), rfl⟩
    · go_enter Tryz.func60, Tryz.ntmps60
      go_wp2
      go_ret
      exact ⟨ret_int (by unfold wsz; rw [if_neg (by omega)]; omega), rfl⟩
/-- The numbers rise, and fit, above one that came. -/
def risB : Int → List Int → Bool
  | _, [] => true
  | last, z :: r => (fitsB 3 [z] && decide (last < z)) && risB z r
def nosOf (l : List (List Int × List UInt8)) : List Int := l.map fun p => p.1.headD 0

theorem asz1 (v : World) (o : Obj) : (v.alloc o).heap.size = v.heap.size + 1 := by simp
theorem nos_drop {ls : List (List Int × List UInt8)} {j : Nat} {x : Int} {l : List UInt8} (h : ls[j]? = some ([x], l)) : (nosOf ls).drop j = x :: (nosOf ls).drop (j + 1) := by
  have hj : j < ls.length := by
    rcases Nat.lt_or_ge j ls.length with h1 | h1
    · exact h1
    · rw [List.getElem?_eq_none h1] at h; cases h
  have h2 : ls[j] = ([x], l) := by rw [List.getElem?_eq_getElem hj] at h; injection h
  have hj2 : j < (nosOf ls).length := by simp [nosOf]; exact hj
  rw [List.drop_eq_getElem_cons hj2]
  congr 1
  simp [nosOf, h2]
set_option maxHeartbeats 1000000 in
theorem rising_any (A : Option Addr) (n c : Nat) (ls : List (List Int × List UInt8)) (w : World) (hr : RdPcs w w.heap.size 1 A n ls) (hn : n ≤ 1099511627776) :
    Calls Tryz.prog 90 #[.slice A n c] w fun e w' => e = .returned (.bool (risB (-1) (nosOf ls))) ∧ Below w.heap.size w w' := by
  go_enter Tryz.func90, Tryz.ntmps90
  go_wp2_with fail
  go_loopw [3, 8] (fun la i wr => ∃ (j : Nat) (y : Int), j ≤ n ∧ i = .int .i64 j ∧ la = .int .i64 y ∧ -9223372036854775808 ≤ y ∧ y ≤ 9223372036854775807 ∧ Hid (risB (-1) (nosOf ls) = risB y ((nosOf ls).drop j)) ∧ Below w.heap.size w wr) (fun _ i _ => n - (intOf i).toNat)
  case atStart => exact ⟨0, -1, Nat.zero_le _, rfl, rfl, by omega, by omega, rfl, Below.refl _ _⟩
  case round =>
    obtain ⟨j, y, hj, rfl, rfl, hy1, hy2, hris, hbw⟩ := hrel
    by_cases hlt : j < n
    · obtain ⟨b, o, ⟨zs, bl⟩, rfl, hbb, hx, hzl, hzb, hzc, v, hvc, Ab, nb, cb, rfl, hvr, hvn⟩ := (hr.below hbw (Nat.le_refl _)).at_ hlt
      obtain ⟨x, rfl⟩ : ∃ x, zs = [x] := by
        match zs, hzl with
        | [x], _ => exact ⟨x, rfl⟩
      have k0 := hzc 0 x rfl
      simp only [Nat.reduceAdd, Nat.add_zero] at k0 hvc
      have hx0 := hzb x (by simp)
      unfold i64B at hx0
      obtain ⟨hxa, hxb⟩ := hx0
      have hnd := nos_drop hx
      have hri : risB y ((nosOf ls).drop j) = ((fitsB 3 [x] && decide (y < x)) && risB x ((nosOf ls).drop (j + 1))) := by rw [hnd]; rfl
      have Hri := Lib.hid (hris.out.trans hri)
      have w3 : (wid 3).toNat = 3 := by decide
      have hone := (Rd.oneI (wr.alloc (.cells #[.int .i64 x, .slice Ab nb cb] 122)) 3 x).more (B' := ((wr.alloc (.cells #[.int .i64 x, .slice Ab nb cb] 122)).alloc (.cells #[.int .i64 x] 3)).heap.size) (by simp)
      rw [asz1 wr] at hone
      have hf := fits_any 3 _ 1 1 [x] _ hone (by omega) (by simpa using ⟨hxa, hxb⟩)
      rw [w3] at hf
      have hbe : Below w.heap.size w ((wr.alloc (.cells #[.int .i64 x, .slice Ab nb cb] 122)).alloc (.cells #[.int .i64 x] 3)) := (hbw.alloc hbw.size _).alloc (by have := hbw.size; simp; omega) _
      clear hnd hri hzc hzl hzb hx hris hone w3
      cases hfi : fitsB 3 [x] with
      | false =>
        rw [hfi] at hf Hri
        clear hfi
        go_wp2_with fail
        refine hf.mono ?_
        rintro e w4 ⟨rfl, rfl⟩
        go_wp2
        go_ret
        exact ⟨ret_bool (by rw [Hri.out]; rfl), hbe⟩
      | true =>
        rw [hfi] at hf Hri
        clear hfi
        by_cases hxy : x ≤ y
        · have Hno : Hid ((true && decide (y < x) && risB x ((nosOf ls).drop (j + 1))) = false) := Lib.hid (by simp; intro h; omega)
          go_wp2_with fail
          refine hf.mono ?_
          rintro e w4 ⟨rfl, rfl⟩
          go_wp2
          go_ret
          exact ⟨ret_bool (by rw [Hri.out, Hno.out]), hbe⟩
        · have hyx : y < x := by omega
          have Hno : Hid ((true && decide (y < x) && risB x ((nosOf ls).drop (j + 1))) = risB x ((nosOf ls).drop (j + 1))) := Lib.hid (by simp [hyx])
          go_wp2_with fail
          refine hf.mono ?_
          rintro e w4 ⟨rfl, rfl⟩
          go_wp2_with fail
          go_roundw
          case rel => exact ⟨j + 1, x, by omega, by go_num, rfl, hxa, hxb, Lib.hid (by rw [Hri.out, Hno.out]), hbe⟩
          case measure => simp [intOf]; omega
    · have : j = n := by omega
      subst this
      have hln := hr.1
      have hnil : risB (-1) (nosOf ls) = true := by
        rw [hris.out, List.drop_of_length_le (by simp [nosOf]; omega)]; rfl
      have Hnil := Lib.hid hnil
      clear hnil hln
      go_wp2
      go_ret
      exact ⟨ret_bool (by rw [Hnil.out]), hbw⟩
end Go.Proofs.YtoadamkmabkldaaGreatDoor
