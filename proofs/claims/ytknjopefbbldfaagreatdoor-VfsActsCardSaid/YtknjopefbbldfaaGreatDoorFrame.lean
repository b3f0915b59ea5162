/- The frame of a law's proof: arguments opened to what the walk is told of them; and the row's last step, where the call has only made memory. -/
import Derived.Test.YtknjopefbbldfaaGreatDoorBase
import Derived.Deep.Slices
import Derived.SizedLaws
namespace Go.Proofs.YtknjopefbbldfaaGreatDoor
open Go.RowKit Go.ChangeShapes Go.WideShapes Go.ChangeAt

section
variable {H : Type} {enc : TypeId × Value → H} {P : Program}
theorem trodAll_below (hl : laidOutB P = true) {W W' : World} (hb : Below W.heap.size W W') :
    ∀ (ts : List TypeId) (vs : List Value) (ds : List (DataW H)) (p : List MemPlace), (ts.all fun t => P.readableRec t && decide (t < P.types.size)) = true →
      DataW.TrodAll enc P W 0 (fun _ => true) true ts vs ds p → (∀ x ∈ p, x.block < W.heap.size) →
      DataW.TrodAll enc P W' 0 (fun b => decide (b < W.heap.size)) true ts vs ds p
  | [], [], [], p, _, h, _ => h
  | t :: ts, v :: vs, d :: ds, p, hr, h, hlt => by
    obtain ⟨p1, q1, h1, h2, rfl⟩ := h
    simp only [List.all_cons, Bool.and_eq_true, decide_eq_true_eq] at hr
    exact ⟨p1, q1, Below.trod hl hr.1.1 hr.1.2 h1 hb (fun x hx => hlt x (List.mem_append_left _ hx)),
      trodAll_below hl hb ts vs ds q1 (by simpa using hr.2) h2 (fun x hx => hlt x (List.mem_append_right _ hx)), rfl⟩
  | [], [], _ :: _, _, _, h, _ => h.elim
  | [], _ :: _, _, _, _, h, _ => by simp [DataW.TrodAll] at h
  | _ :: _, [], _, _, _, h, _ => by simp [DataW.TrodAll] at h
  | _ :: _, _ :: _, [], _, _, h, _ => by simp [DataW.TrodAll] at h

variable {W : World} {base : Nat} {v : Value} {d : DataW H} {p : List MemPlace} {t e : TypeId} {k : IntKind} {r : Reach}
theorem open_sl (ht : P.underlying t = some (.slice e)) (he : P.underlying e = some (.int k)) (hc : P.cellsOf e = 1) (hv : Value.okWide P W r base t v)
    (h : DataW.Trod enc P W 0 (fun _ => true) true t v d p) :
    ∃ (A : Option Addr) (n c : Nat) (zs : List Int), v = .slice A n c ∧ Rd W W.heap.size 1 A n (zs.map (Value.int k)) ∧ n ≤ c ∧ c ≤ maxLen ∧ ∀ z ∈ zs, (Lit.int k z).wf = true := by
  obtain ⟨a0, len0, cap0, rfl⟩ := okWide_slice ht hv
  obtain ⟨fuel, hf⟩ := h
  rcases open_ints ht he hc hf with ⟨hcs, _⟩ | ⟨x, l, c, zs, hcs, _, hl, hm, hz, _, hcell, hwz⟩
  · simp [Value.cells] at hcs
    obtain ⟨rfl, rfl, rfl⟩ := hcs
    exact ⟨none, 0, 0, [], rfl, Rd.nil_, Nat.le_refl _, Nat.zero_le _, by simp⟩
  · simp [Value.cells] at hcs
    obtain ⟨rfl, rfl, rfl⟩ := hcs
    simp only [if_true] at hz
    refine ⟨some x, len0, cap0, zs.take len0, rfl, ⟨by simp; omega, fun hn => ?_⟩, hl, hm, fun z hz' => hwz z (List.mem_of_mem_take hz')⟩
    obtain ⟨b, o, sp⟩ := x
    have h0 := hcell 0 (by omega)
    have hsp : sp = none := by simpa [Addr.add] using World.cell?_spot h0
    subst hsp
    refine ⟨b, o, rfl, by rw [addLit] at h0; exact World.block_lt_of_cell? W _ h0, fun j u hu => ?_⟩
    simp only [List.getElem?_map, Option.map_eq_some_iff] at hu
    obtain ⟨y, hy, rfl⟩ := hu
    rw [List.getElem?_take] at hy
    split at hy
    · have hj : j < zs.length := by omega
      have := hcell j hj
      rw [addLit] at this
      rw [this, List.getD_eq_getElem?_getD, hy]; rfl
    · cases hy
theorem wf_byte {z : Int} (h : (Lit.int .u8 z).wf = true) : 0 ≤ z ∧ z ≤ 255 := bounds_u8 h
theorem to_bys (zs : List Int) (h : ∀ z ∈ zs, (Lit.int .u8 z).wf = true) : ∃ l : List UInt8, zs.map (Value.int .u8) = bys l := by
  induction zs with
  | nil => exact ⟨[], rfl⟩
  | cons z r ih =>
    obtain ⟨l, hl⟩ := ih fun y hy => h y (List.mem_cons_of_mem _ hy)
    have := wf_byte (h z List.mem_cons_self)
    refine ⟨UInt8.ofNat z.toNat :: l, ?_⟩
    simp only [List.map_cons, bys, hl]
    congr 2
    simp only [UInt8.toNat_ofNat']
    omega
theorem open_bys (ht : P.underlying t = some (.slice e)) (he : P.underlying e = some (.int .u8)) (hc : P.cellsOf e = 1) (hv : Value.okWide P W r base t v)
    (h : DataW.Trod enc P W 0 (fun _ => true) true t v d p) :
    ∃ (A : Option Addr) (n c : Nat) (l : List UInt8), v = .slice A n c ∧ Rd W W.heap.size 1 A n (bys l) ∧ n ≤ c ∧ c ≤ maxLen := by
  obtain ⟨A, n, c, zs, rfl, hr, hnc, hcm, hw⟩ := open_sl ht he hc hv h
  obtain ⟨l, hl⟩ := to_bys zs hw
  exact ⟨A, n, c, l, rfl, by rw [← hl]; exact hr, hnc, hcm⟩
theorem open_its (ht : P.underlying t = some (.slice e)) (he : P.underlying e = some (.int .i64)) (hc : P.cellsOf e = 1) (hv : Value.okWide P W r base t v)
    (h : DataW.Trod enc P W 0 (fun _ => true) true t v d p) :
    ∃ (A : Option Addr) (n c : Nat) (l : List Int), v = .slice A n c ∧ Rd W W.heap.size 1 A n (its l) ∧ n ≤ c ∧ c ≤ maxLen ∧ ∀ z ∈ l, -9223372036854775808 ≤ z ∧ z ≤ 9223372036854775807 := by
  obtain ⟨A, n, c, zs, rfl, hr, hnc, hcm, hw⟩ := open_sl ht he hc hv h
  exact ⟨A, n, c, zs, rfl, hr, hnc, hcm, fun z hz => bounds_i64 (hw z hz)⟩
/-- Bytes, out of a reading alone. -/
theorem read_bys {fuel : Nat} {x : DataW H × List MemPlace} (ht : P.underlying t = some (.slice e)) (he : P.underlying e = some (.int .u8)) (hc : P.cellsOf e = 1) (hf : DataW.trod enc P W 0 (fun _ => true) true fuel t [v] = some x) :
    ∃ l, RdB W W.heap.size v l := by
  rcases open_ints ht he hc hf with ⟨hcs, _⟩ | ⟨a, n, c, zs, hcs, _, hl, hm, hz, _, hcell, hwz⟩
  · injection hcs with hcs
    subst hcs
    exact ⟨[], none, 0, 0, rfl, Rd.empty, Nat.le_refl _⟩
  · injection hcs with hcs
    subst hcs
    simp only [if_true] at hz
    obtain ⟨l, hl2⟩ := to_bys (zs.take n) (fun z hz' => hwz z (List.mem_of_mem_take hz'))
    refine ⟨l, some a, n, c, rfl, ⟨by rw [← hl2]; simp; omega, fun hn => ?_⟩, hl⟩
    obtain ⟨b, o, sp⟩ := a
    have h0 := hcell 0 (by omega)
    have hsp : sp = none := by simpa [Addr.add] using World.cell?_spot h0
    subst hsp
    refine ⟨b, o, rfl, by rw [addLit] at h0; exact World.block_lt_of_cell? W _ h0, fun j u hu => ?_⟩
    rw [← hl2] at hu
    simp only [List.getElem?_map, Option.map_eq_some_iff] at hu
    obtain ⟨y, hy, rfl⟩ := hu
    rw [List.getElem?_take] at hy
    split at hy
    · have hj : j < zs.length := by omega
      have := hcell j hj
      rw [addLit] at this
      rw [this, List.getD_eq_getElem?_getD, hy]; rfl
    · cases hy
theorem open_rows {tb : TypeId} (ht : P.underlying t = some (.slice tb)) (htb : P.underlying tb = some (.slice e)) (he : P.underlying e = some (.int .u8)) (hc1 : P.cellsOf tb = 1) (hc : P.cellsOf e = 1) (hv : Value.okWide P W r base t v)
    (h : DataW.Trod enc P W 0 (fun _ => true) true t v d p) :
    ∃ (A : Option Addr) (n c : Nat) (ls : List (List UInt8)), v = .slice A n c ∧ RdRows W W.heap.size A n ls ∧ n ≤ c ∧ c ≤ maxLen := by
  obtain ⟨a0, len0, cap0, rfl⟩ := okWide_slice ht hv
  obtain ⟨fuel, hf⟩ := h
  rcases Deep.open_slice1 ht hc1 hf with ⟨hcs, _⟩ | ⟨x, n, c, m, k, V, D, Pl, hcs, _, hl, hm, hmm, _, hi⟩
  · simp [Value.cells] at hcs
    obtain ⟨rfl, rfl, rfl⟩ := hcs
    exact ⟨none, 0, 0, [], rfl, ⟨[], Rd.nil_, rfl, fun i v l hv _ => by simp at hv⟩, Nat.le_refl _, Nat.zero_le _⟩
  · simp [Value.cells] at hcs
    obtain ⟨rfl, rfl, rfl⟩ := hcs
    simp only [if_true] at hmm
    obtain ⟨L, hL⟩ := Deep.choose_lt (n := len0) (α := List UInt8) (p := fun i l => RdB W W.heap.size (V i) l) (fun i hi' => read_bys htb he hc (hi i (by omega)).2)
    refine ⟨some x, len0, cap0, (List.range len0).map L, rfl, ⟨(List.range len0).map V, ⟨by simp, fun hn => ?_⟩, by simp, fun i v l hv' hl' => ?_⟩, hl, hm⟩
    · obtain ⟨b, o, sp⟩ := x
      have h0 := (hi 0 (by omega)).1
      have hsp : sp = none := by simpa [Addr.add] using World.cell?_spot h0
      subst hsp
      refine ⟨b, o, rfl, by rw [addLit] at h0; exact World.block_lt_of_cell? W _ h0, fun j u hu => ?_⟩
      simp only [List.getElem?_map, Option.map_eq_some_iff] at hu
      obtain ⟨y, hy, rfl⟩ := hu
      have hjl : j < len0 := by
        rcases Nat.lt_or_ge j len0 with h | h
        · exact h
        · rw [List.getElem?_eq_none (by simpa using h)] at hy; cases hy
      rw [List.getElem?_range hjl] at hy
      injection hy with hy
      subst hy
      have := (hi j (by omega)).1
      rwa [addLit] at this
    · simp only [List.getElem?_map, Option.map_eq_some_iff] at hv' hl'
      obtain ⟨y, hy, rfl⟩ := hv'
      obtain ⟨y', hy', rfl⟩ := hl'
      rw [hy] at hy'
      injection hy' with hy'
      subst hy'
      have : y < len0 := by have := List.mem_of_getElem? hy; simpa using this
      exact hL y this
/-- The form's own reach, of a slice that came in. -/
theorem cap_reach {ts : List TypeId} {ds : List (DataW H)} {A : Option Addr} {n c j : Nat} (hsz : (DataW.weightsEach P ts ds).all (· ≤ reachBytes) = true) (hj : ts[j]? = some t) (hd : ds[j]? = some d) (ht : P.underlying t = some (.slice e))
    (h : DataW.Trod enc P W 0 (fun _ => true) true t (.slice A n c) d p) : c * P.bytesOf e ≤ 140737488351232 := by
  obtain ⟨fuel, hf⟩ := h
  rcases DataW.trod_slice ht hf with ⟨hcs, _⟩ | ⟨a, len, cap, elems, rest, k, _, hcs, hx, _, hl, _, hlen, _, hsp, _⟩
  · simp [Value.cells] at hcs
    obtain ⟨_, _, rfl⟩ := hcs
    omega
  · simp [Value.cells] at hcs
    obtain ⟨_, rfl, rfl⟩ := hcs
    injection hx with hx1 _
    rw [hx1] at hd
    have h1 := sized_slice hsz hj hd ht
    have h2 := (hsp rfl).1
    have h3 : reachBytes = 140737488351232 := rfl
    simp only [List.length_map] at h1
    rw [hlen, h2, h3] at h1
    have h4 : n + (c - n) = c := by omega
    rwa [h4] at h1
theorem mapM_some_mem {α β : Type} {f : α → Option β} : ∀ (L : List α) (ys : List β), L.mapM f = some ys → ∀ i ∈ L, ∃ y, f i = some y
  | [], _, _, i, hi => by simp at hi
  | x :: L, ys, h, i, hi => by
    rw [List.mapM_cons] at h
    simp only [bind, Option.bind_eq_some_iff, pure, Option.some.injEq] at h
    obtain ⟨y, hy, zs, hzs, _⟩ := h
    rcases List.mem_cons.1 hi with rfl | hi
    · exact ⟨y, hy⟩
    · exact mapM_some_mem L zs hzs i hi
/-- An array of numbers, by value. -/
theorem open_arr {n : Nat} (ht : P.underlying t = some (.array n e)) (he : P.underlying e = some (.int k)) (hct : P.cellsOf t = n) (hce : P.cellsOf e = 1) (hv : Value.okWide P W r base t v) (h : DataW.Trod enc P W 0 (fun _ => true) true t v d p) :
    ∃ zs : List Int, v = .agg (zs.map (Value.int k)).toArray ∧ zs.length = n ∧ ∀ z ∈ zs, (Lit.int k z).wf = true := by
  simp only [Value.okWide, ht] at hv
  obtain ⟨cs, rfl, hsz, _⟩ := hv
  rw [hct] at hsz
  obtain ⟨fuel, hf⟩ := h
  cases fuel with
  | zero => simp [DataW.trod] at hf
  | succ m =>
    rw [DataW.trod_step] at hf
    unfold DataW.trodStep at hf
    simp only [ht, Value.cells] at hf
    rw [if_pos (by rw [hct]; simpa using hsz)] at hf
    simp only [Option.map_eq_some_iff] at hf
    obtain ⟨ys, hy, _⟩ := hf
    have each : ∀ i, i < n → ∃ z : Int, cs[i]? = some (.int k z) ∧ (Lit.int k z).wf = true := by
      intro i hi
      obtain ⟨y, hy2⟩ := mapM_some_mem _ _ hy i (List.mem_range.2 hi)
      rw [hce, Nat.mul_one] at hy2
      obtain ⟨z, h1, _, h3⟩ := DataW.trod_int he hy2
      refine ⟨z, ?_, h3⟩
      have hil : i < cs.toList.length := by simpa using (by omega : i < cs.size)
      rw [List.drop_eq_getElem_cons hil] at h1
      simp at h1
      rw [Array.getElem?_eq_getElem (by simpa using hil), h1]
    obtain ⟨Z, hZ⟩ := Deep.choose_lt each
    refine ⟨(List.range n).map Z, ?_, by simp, fun z hz => ?_⟩
    · congr 1
      apply Array.ext_getElem?
      intro i
      by_cases hi : i < n
      · rw [(hZ i hi).1]; simp [hi]
      · have h1 : cs.size ≤ i := by omega
        have h2 : (((List.range n).map Z).map (Value.int k)).toArray.size ≤ i := by simp; omega
        rw [Array.getElem?_eq_none h1, Array.getElem?_eq_none h2]
    · simp only [List.mem_map, List.mem_range] at hz
      obtain ⟨i, hi, rfl⟩ := hz
      exact (hZ i hi).2
theorem open_two (ht : P.underlying t = some (.array 2 e)) (he : P.underlying e = some (.int k)) (hct : P.cellsOf t = 2) (hce : P.cellsOf e = 1) (hv : Value.okWide P W r base t v) (h : DataW.Trod enc P W 0 (fun _ => true) true t v d p) :
    ∃ a b : Int, v = .agg #[.int k a, .int k b] ∧ (Lit.int k a).wf = true ∧ (Lit.int k b).wf = true := by
  obtain ⟨zs, rfl, hl, hz⟩ := open_arr ht he hct hce hv h
  match zs, hl with
  | [a, b], _ => exact ⟨a, b, rfl, hz a (by simp), hz b (by simp)⟩
theorem open_six (ht : P.underlying t = some (.array 6 e)) (he : P.underlying e = some (.int k)) (hct : P.cellsOf t = 6) (hce : P.cellsOf e = 1) (hv : Value.okWide P W r base t v) (h : DataW.Trod enc P W 0 (fun _ => true) true t v d p) :
    ∃ a0 a1 a2 a3 a4 a5 : Int, v = .agg #[.int k a0, .int k a1, .int k a2, .int k a3, .int k a4, .int k a5] ∧ ((Lit.int k a0).wf = true ∧ (Lit.int k a1).wf = true ∧ (Lit.int k a2).wf = true ∧ (Lit.int k a3).wf = true ∧ (Lit.int k a4).wf = true ∧ (Lit.int k a5).wf = true) := by
  obtain ⟨zs, rfl, hl, hz⟩ := open_arr ht he hct hce hv h
  match zs, hl with
  | [a0, a1, a2, a3, a4, a5], _ => exact ⟨a0, a1, a2, a3, a4, a5, rfl, hz a0 (by simp), hz a1 (by simp), hz a2 (by simp), hz a3 (by simp), hz a4 (by simp), hz a5 (by simp)⟩
end
end Go.Proofs.YtknjopefbbldfaaGreatDoor
