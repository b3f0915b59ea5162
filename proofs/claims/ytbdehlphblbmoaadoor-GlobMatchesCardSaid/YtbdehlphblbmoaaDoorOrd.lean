/- A load of a region whose order is open may be taken first where the region writes its cell only behind it. No program in sight. -/
import Derived.Deep.RegionHeld3
namespace Go.Proofs.YtbdehlphblbmoaaDoor
open Go

section
variable {P : Program} {ops : Array Oper} {Q : Exit → Act → World → Prop} {md : Region.Mode} {u : Nat} {R : World → Prop}
/-- What has come up has all before it that it waits for. -/
def Clo (md : Region.Mode) (ops : Array Oper) (l : Array Bool) : Prop := ∀ (k : Nat) ok, ops[k]? = some ok → l.getD k false = true → ∀ e ∈ ok.after, Region.binds md e = true → l.getD e.on false = true
theorem clo_start (n : Nat) : Clo md ops (Array.replicate n false) := by
  intro k ok _ h
  simp [Array.getD] at h
theorem clo_set {l : Array Bool} {j : Nat} (h : Clo md ops l) (hj : j ∈ Region.ready md ops l) : Clo md ops (l.setIfInBounds j true) := by
  intro k ok hk hl e he hb
  obtain ⟨_, o, ho, hall⟩ := mem_ready.1 hj
  by_cases hkj : k = j
  · subst hkj
    rw [ho] at hk
    injection hk with hk
    subst hk
    exact getD_set_true (hall e he hb)
  · rw [getD_set_ne false (fun e => hkj e.symm)] at hl
    exact getD_set_true (h k ok hk hl e he hb)
/-- Does the one wait for the other, over so many steps? -/
def waits (md : Region.Mode) (ops : Array Oper) (i : Nat) : Nat → Nat → Bool
  | 0, k => k == i
  | n + 1, k => k == i || (match ops[k]? with | some o => o.after.any (fun e => Region.binds md e && waits md ops i n e.on) | none => false)
theorem waits_of {l : Array Bool} {i : Nat} (h : Clo md ops l) : ∀ (n k : Nat), waits md ops i n k = true → l.getD k false = true → l.getD i false = true
  | 0, k, hw, hk => by
    have : k = i := by simpa [waits] using hw
    rwa [this] at hk
  | n + 1, k, hw, hk => by
    rw [waits, Bool.or_eq_true] at hw
    rcases hw with hw | hw
    · have : k = i := by simpa using hw
      rwa [this] at hk
    · split at hw
      · rename_i o ho
        rw [Array.any_eq_true'] at hw
        obtain ⟨e, he, h2⟩ := hw
        rw [Bool.and_eq_true] at h2
        exact waits_of h n e.on h2.2 (h k o ho hk e he h2.1)
      · cases hw
/-- Whatever order is picked from here on, and R holds behind every operation that is carried out ahead of number u. -/
def wpAnyU (P : Program) (md : Region.Mode) (ops : Array Oper) (Q : Exit → Act → World → Prop) (u : Nat) (R : World → Prop) : Nat → Array Bool → Act → World → Prop
  | 0, listed, a, w => Region.ready md ops listed = [] ∧ Q .normal a w
  | fuel + 1, listed, a, w =>
    (Region.ready md ops listed = [] → Q .normal a w) ∧
    ∀ i ∈ Region.ready md ops listed, wpOp P ops Q i (fun a' w' => ((listed.setIfInBounds i true).getD u false = false → R w') ∧ wpAnyU P md ops Q u R fuel (listed.setIfInBounds i true) a' w') a w
theorem wpAny_of_u : ∀ (fuel : Nat) (listed : Array Bool) (a : Act) (w : World), wpAnyU P md ops Q u R fuel listed a w → wpAny P md ops Q fuel listed a w
  | 0, _, _, _, h => h
  | fuel + 1, _, _, _, h => ⟨h.1, fun i hi => wpOp_mono (fun a' w' h' => wpAny_of_u fuel _ a' w' h'.2) (h.2 i hi)⟩
theorem unlisted {l : Array Bool} {i n : Nat} (hc : Clo md ops l) (hw : waits md ops i n u = true) (hi : l.getD i true = false) : l.getD u false = false := by
  cases h : l.getD u false with
  | false => rfl
  | true =>
    have h1 := waits_of hc n u hw h
    rcases Nat.lt_or_ge i l.size with h' | h'
    · simp [h'] at h1 hi; rw [h1] at hi; cases hi
    · simp [Array.getElem?_eq_none h'] at h1
theorem wpAnyU_first {i n : Nat} {oi : Oper} {v : Value} (hi : ops[i]? = some oi) (hsel : ∀ (j : Nat) (o : Oper) cs b, ops[j]? = some o → o.op ≠ .select cs b) (hwt : waits md ops i n u = true) (hui : u ≠ i)
    (hQ : ∀ c a w, Q (.panic c) (a.put oi.dst v) w → Q (.panic c) a w) :
    ∀ (fuel : Nat) (listed : Array Bool) (a : Act) (w : World),
      (∀ j oj, ops[j]? = some oj → j ≠ i → listed.getD j true = false → (∀ e ∈ oj.after, Region.binds md e = true → e.on ≠ i) → oi.apart ops oj = true) →
      i ∈ Region.ready md ops listed → Clo md ops listed → YieldsIf P ops R oi v a → R w →
      wpAnyU P md ops Q u R fuel (listed.setIfInBounds i true) (a.put oi.dst v) w → wpAnyU P md ops Q u R (fuel + 1) listed a w := by
  intro fuel
  induction fuel with
  | zero =>
    intro listed a w _ hr hcl hy hS H
    refine ⟨fun h => (by rw [h] at hr; cases hr), fun j hj => ?_⟩
    by_cases hji : j = i
    · subst hji; exact hy.wpOp hi hS ⟨fun _ => hS, H⟩
    · have := ready_mono hj hji
      rw [H.1] at this
      cases this
  | succ fuel ih =>
    intro listed a w hfree hr hcl hy hS H
    refine ⟨fun h => (by rw [h] at hr; cases hr), fun j hj => ?_⟩
    by_cases hji : j = i
    · subst hji; exact hy.wpOp hi hS ⟨fun _ => hS, H⟩
    · have h1 := H.2 j (ready_mono hj hji)
      obtain ⟨hjun, oj, hoj, hall⟩ := mem_ready.1 hj
      have hnot : ∀ e ∈ oj.after, Region.binds md e = true → e.on ≠ i := fun e he hb heq => by
        have h1 := hall e he hb
        have h0 := (mem_ready.1 hr).1
        rw [heq] at h1
        rcases Nat.lt_or_ge i listed.size with h' | h'
        · simp [h'] at h0 h1; rw [h0] at h1; cases h1
        · simp [Array.getElem?_eq_none h'] at h1
      have h2 := wpOp_putIf hoj (hfree j oj hoj hji hjun hnot) (fun cs b => hsel i oi cs b hi) (fun cs b => hsel j oj cs b hoj) hQ hy h1
      have hfree' : ∀ k ok, ops[k]? = some ok → k ≠ i → (listed.setIfInBounds j true).getD k true = false →
          (∀ e ∈ ok.after, Region.binds md e = true → e.on ≠ i) → oi.apart ops ok = true := fun k ok hk hki hun hno => by
        refine hfree k ok hk hki ?_ hno
        by_cases hjk : j = k
        · subst hjk; exact hjun
        · rw [getD_set_ne true hjk] at hun; exact hun
      have hcl' := clo_set hcl hj
      have hir := ready_mono hr (Ne.symm hji)
      have hun : (listed.setIfInBounds j true).getD u false = false := unlisted hcl' hwt (mem_ready.1 hir).1
      refine wpOp_mono (fun a' w' h3 => ?_) h2
      have hRw : R w' := h3.2.1 (by rw [Array.setIfInBounds_comm _ _ (Ne.symm hji), getD_set_ne false (fun e => hui e.symm)]; exact hun)
      refine ⟨fun _ => hRw, ih (listed.setIfInBounds j true) a' w' hfree' hir hcl' h3.1 hRw ?_⟩
      rw [Array.setIfInBounds_comm _ _ hji]
      exact h3.2.2
/-- .. an operation that yields in whatever world. -/
theorem wpAnyU_first0 {i : Nat} {oi : Oper} {v : Value} (hi : ops[i]? = some oi) (hsel : ∀ (j : Nat) (o : Oper) cs b, ops[j]? = some o → o.op ≠ .select cs b) (hui : u ≠ i)
    (hQ : ∀ c a w, Q (.panic c) (a.put oi.dst v) w → Q (.panic c) a w) :
    ∀ (fuel : Nat) (listed : Array Bool) (a : Act) (w : World),
      (∀ j oj, ops[j]? = some oj → j ≠ i → listed.getD j true = false → (∀ e ∈ oj.after, Region.binds md e = true → e.on ≠ i) → oi.apart ops oj = true) →
      i ∈ Region.ready md ops listed → YieldsIf P ops (fun _ => True) oi v a → (listed.getD u false = false → R w) →
      wpAnyU P md ops Q u R fuel (listed.setIfInBounds i true) (a.put oi.dst v) w → wpAnyU P md ops Q u R (fuel + 1) listed a w := by
  intro fuel
  induction fuel with
  | zero =>
    intro listed a w _ hr hy hS H
    refine ⟨fun h => (by rw [h] at hr; cases hr), fun j hj => ?_⟩
    by_cases hji : j = i
    · subst hji; exact hy.wpOp hi trivial ⟨fun h => hS (by rwa [getD_set_ne false (fun e => hui e.symm)] at h), H⟩
    · have := ready_mono hj hji
      rw [H.1] at this
      cases this
  | succ fuel ih =>
    intro listed a w hfree hr hy hS H
    refine ⟨fun h => (by rw [h] at hr; cases hr), fun j hj => ?_⟩
    by_cases hji : j = i
    · subst hji; exact hy.wpOp hi trivial ⟨fun h => hS (by rwa [getD_set_ne false (fun e => hui e.symm)] at h), H⟩
    · have h1 := H.2 j (ready_mono hj hji)
      obtain ⟨hjun, oj, hoj, hall⟩ := mem_ready.1 hj
      have hnot : ∀ e ∈ oj.after, Region.binds md e = true → e.on ≠ i := fun e he hb heq => by
        have h1 := hall e he hb
        have h0 := (mem_ready.1 hr).1
        rw [heq] at h1
        rcases Nat.lt_or_ge i listed.size with h' | h'
        · simp [h'] at h0 h1; rw [h0] at h1; cases h1
        · simp [Array.getElem?_eq_none h'] at h1
      have h2 := wpOp_putIf hoj (hfree j oj hoj hji hjun hnot) (fun cs b => hsel i oi cs b hi) (fun cs b => hsel j oj cs b hoj) hQ hy h1
      have hfree' : ∀ k ok, ops[k]? = some ok → k ≠ i → (listed.setIfInBounds j true).getD k true = false →
          (∀ e ∈ ok.after, Region.binds md e = true → e.on ≠ i) → oi.apart ops ok = true := fun k ok hk hki hun hno => by
        refine hfree k ok hk hki ?_ hno
        by_cases hjk : j = k
        · subst hjk; exact hjun
        · rw [getD_set_ne true hjk] at hun; exact hun
      refine wpOp_mono (fun a' w' h3 => ?_) h2
      have hRw : (listed.setIfInBounds j true).getD u false = false → R w' := fun h => h3.2.1 (by rw [Array.setIfInBounds_comm _ _ (Ne.symm hji), getD_set_ne false (fun e => hui e.symm)]; exact h)
      refine ⟨hRw, ih (listed.setIfInBounds j true) a' w' hfree' (ready_mono hr (Ne.symm hji)) h3.1 hRw ?_⟩
      rw [Array.setIfInBounds_comm _ _ hji]
      exact h3.2.2
/-- Take number i first. -/
theorem wpAnyU_take {i : Nat} {oi : Oper} {v : Value} {fuel : Nat} {listed : Array Bool} {a : Act} {w : World} (hcl : Clo md ops listed) (hi : ops[i]? = some oi)
    (hs : Region.noSelect ops = true) (hf : Region.free md ops listed i = true) (hr : (Region.ready md ops listed).contains i = true) (hw : waits md ops i 8 u = true) (hui : u ≠ i)
    (hQ : ∀ c a w, Q (.panic c) (a.put oi.dst v) w → Q (.panic c) a w) (hy : YieldsIf P ops R oi v a) (hS : R w)
    (h : Clo md ops (listed.setIfInBounds i true) → wpAnyU P md ops Q u R fuel (listed.setIfInBounds i true) (a.put oi.dst v) w) : wpAnyU P md ops Q u R (fuel + 1) listed a w :=
  wpAnyU_first hi (Region.noSelect_spec hs) hw hui hQ fuel listed a w (Region.free_spec hi hf) (by simpa using hr) hcl hy hS (h (clo_set hcl (by simpa using hr)))
theorem wpAnyU_take0 {i : Nat} {oi : Oper} {v : Value} {fuel : Nat} {listed : Array Bool} {a : Act} {w : World} (hcl : Clo md ops listed) (hi : ops[i]? = some oi)
    (hs : Region.noSelect ops = true) (hf : Region.free md ops listed i = true) (hr : (Region.ready md ops listed).contains i = true) (hui : u ≠ i)
    (hQ : ∀ c a w, Q (.panic c) (a.put oi.dst v) w → Q (.panic c) a w) (hy : YieldsIf P ops (fun _ => True) oi v a) (hS : listed.getD u false = false → R w)
    (h : Clo md ops (listed.setIfInBounds i true) → wpAnyU P md ops Q u R fuel (listed.setIfInBounds i true) (a.put oi.dst v) w) : wpAnyU P md ops Q u R (fuel + 1) listed a w :=
  wpAnyU_first0 hi (Region.noSelect_spec hs) hui hQ fuel listed a w (Region.free_spec hi hf) (by simpa using hr) hy hS (h (clo_set hcl (by simpa using hr)))
/-- One operation comes up next; or two. -/
theorem wpAnyU_one {i : Nat} {o : Oper} {fuel : Nat} {listed : Array Bool} {a : Act} {w : World} (hr : Region.ready md ops listed = [i]) (ho : ops[i]? = some o)
    (h : ∀ K' : Act → World → Prop, Shut (∀ a' w', ((listed.setIfInBounds i true).getD u false = false → R w') → wpAnyU P md ops Q u R fuel (listed.setIfInBounds i true) a' w' → K' a' w') →
      if Region.wanted o (yielded ops a.tmps) = true then Oper.wp P o a w K' Q else K' (a.put o.dst undef) w) : wpAnyU P md ops Q u R (fuel + 1) listed a w := by
  refine ⟨fun h0 => absurd (hr ▸ h0) (by simp), ?_⟩
  rw [hr]
  intro j hj
  rw [List.mem_singleton] at hj
  subst hj
  exact wpOp_step ho (fun K' hK => h K' (fun a' w' h1 h2 => hK a' w' ⟨h1, h2⟩))
theorem wpAnyU_two {i k : Nat} {o p : Oper} {fuel : Nat} {listed : Array Bool} {a : Act} {w : World} (hr : Region.ready md ops listed = [i, k]) (ho : ops[i]? = some o) (hp : ops[k]? = some p)
    (h : ∀ K' : Act → World → Prop, Shut (∀ a' w', ((listed.setIfInBounds i true).getD u false = false → R w') → wpAnyU P md ops Q u R fuel (listed.setIfInBounds i true) a' w' → K' a' w') →
      if Region.wanted o (yielded ops a.tmps) = true then Oper.wp P o a w K' Q else K' (a.put o.dst undef) w)
    (h2 : ∀ K' : Act → World → Prop, Shut (∀ a' w', ((listed.setIfInBounds k true).getD u false = false → R w') → wpAnyU P md ops Q u R fuel (listed.setIfInBounds k true) a' w' → K' a' w') →
      if Region.wanted p (yielded ops a.tmps) = true then Oper.wp P p a w K' Q else K' (a.put p.dst undef) w) : wpAnyU P md ops Q u R (fuel + 1) listed a w := by
  refine ⟨fun h0 => absurd (hr ▸ h0) (by simp), ?_⟩
  rw [hr]
  intro j hj
  rcases List.mem_cons.1 hj with rfl | hj
  · exact wpOp_step ho (fun K' hK => h K' (fun a' w' h1 h2 => hK a' w' ⟨h1, h2⟩))
  · rw [List.mem_singleton] at hj
    subst hj
    exact wpOp_step hp (fun K' hK => h2 K' (fun a' w' h1 h2 => hK a' w' ⟨h1, h2⟩))
/-- .. where number u has come up already. -/
theorem wpAnyU_oneD {i : Nat} {o : Oper} {fuel : Nat} {listed : Array Bool} {a : Act} {w : World} (hr : Region.ready md ops listed = [i]) (hu : (listed.setIfInBounds i true).getD u false = true) (ho : ops[i]? = some o)
    (h : ∀ K' : Act → World → Prop, Shut (∀ a' w', wpAnyU P md ops Q u R fuel (listed.setIfInBounds i true) a' w' → K' a' w') →
      if Region.wanted o (yielded ops a.tmps) = true then Oper.wp P o a w K' Q else K' (a.put o.dst undef) w) : wpAnyU P md ops Q u R (fuel + 1) listed a w :=
  wpAnyU_one hr ho (fun K' hK => h K' (fun a' w' h' => hK a' w' (fun e => by rw [hu] at e; cases e) h'))
/-- Take number i first; nothing is said of what has come up. -/
theorem wpAnyU_pure {i : Nat} {oi : Oper} {v : Value} {fuel : Nat} {listed : Array Bool} {a : Act} {w : World} (hi : ops[i]? = some oi)
    (hs : Region.noSelect ops = true) (hf : Region.free md ops listed i = true) (hr : (Region.ready md ops listed).contains i = true) (hui : u ≠ i)
    (hQ : ∀ c a w, Q (.panic c) (a.put oi.dst v) w → Q (.panic c) a w) (hy : YieldsIf P ops (fun _ => True) oi v a) (hS : listed.getD u false = false → R w)
    (h : wpAnyU P md ops Q u R fuel (listed.setIfInBounds i true) (a.put oi.dst v) w) : wpAnyU P md ops Q u R (fuel + 1) listed a w :=
  wpAnyU_first0 hi (Region.noSelect_spec hs) hui hQ fuel listed a w (Region.free_spec hi hf) (by simpa using hr) hy hS h
theorem wpAnyU_done {listed : Array Bool} {a : Act} {w : World} (hr : Region.ready md ops listed = []) (h : Q .normal a w) : ∀ fuel, wpAnyU P md ops Q u R fuel listed a w
  | 0 => ⟨hr, h⟩
  | _ + 1 => ⟨fun _ => h, by rw [hr]; simp⟩
theorem wp_region_u {id : Nat} {a : Act} {w : World} (u : Nat) (R : World → Prop) (hm : P.follows .mixedOrders = true)
    (h : Clo .any ops (Array.replicate ops.size false) → wpAnyU P .any ops Q u R ops.size (Array.replicate ops.size false) a w.drew) : (Code.region id ops true).wp P Q a w :=
  wp_region_any hm (wpAny_of_u _ _ _ _ (h (clo_start _)))
end
end Go.Proofs.YtbdehlphblbmoaaDoor
