/- PagerActs: whatever the input, the law returns true, and the input reads as it did. No condition. -/
import Derived.Test.YtoadamkmabkldaaGreatDoorJn41
import Derived.Test.YtoadamkmabkldaaGreatDoorJn13
import Derived.Test.YtoadamkmabkldaaGreatDoorCards
import Derived.Test.YtoadamkmabkldaaGreatDoorTie
import Derived.SizedLaws
import Derived.ChangeSame
import Derived.ChangeVars
import Derived.JoinedOf
import Derived.JoinedAt
import Derived.LaidLaws
import Derived.Stop.LaidErr
import Derived.SevenTiedAt
namespace Go.Proofs.YtoadamkmabkldaaGreatDoor.pagerActs
open Go.ChangeShapes Go.WideShapes Go.ChangeAt Go.RowKit
open Go.ChangeMaps (open_string shut_string)
set_option linter.unusedVariables false

theorem own : ownKnob Tryz.prog.godebug = none := by kernel_rfl
theorem laidOut : laidOutB Tryz.prog = true := by kernel_rfl

/-- A table's cells, and a block that holds them. -/
def tabC : DataW Unit → Array Value
  | .agg ds => (ds.flatMap fun d => match d with | .lit (.int k z) => [Value.int k z] | .agg es => es.filterMap fun e => (match e with | .lit (.int k z) => some (Value.int k z) | _ => none) | _ => []).toArray
  | _ => #[]
def lay (cs : Array Value) : Obj → Obj
  | .cells _ t frozen => .cells cs t frozen
  | o => o
/-- One start that fits: the tables as the program's text lays them. -/
noncomputable def laidWorld (os : Os) : World :=
  let w0 := World.holding Tryz.prog os ⟨#[], #[], []⟩
  { w0 with heap := ((w0.heap.modify 1 (lay (tabC Rows.laid_unicode_utf8_acceptRanges))).modify 0 (lay (tabC Rows.laid_unicode_utf8_first))) }
theorem laidWorld_met (os : Os) (args : Array Value) : laidMet Tryz.prog Rows.pagerActsRow.laid ((laidWorld os).forCall (fun _ _ => 0) ⟨#[], args, []⟩).memory :=
  laidMet_of_run' 64 (by kernel_rfl) (by kernel_rfl)

set_option maxRecDepth 100000 in
theorem lifted (os : Os) (started : os.Started) (H : Type) (enc : TypeId × Value → H) :
    ReturnsInHanded {} Tryz.checked os 8 .any (fun w args => (Rows.pagerActsSpec.pre enc Tryz.prog Tryz.f8 Rows.pagerActsRow.domain false w args ∧ laidMet Tryz.prog Rows.pagerActsRow.laid w) ∧ sizedMet enc Tryz.prog Tryz.f8 (OpenSpec.ofChange Rows.pagerActsSpec) false w args)
      (Rows.pagerActsSpec.post enc Tryz.prog Tryz.f8 false true false false) := by
  refine returnsInHanded_of_change_and (C := Tryz.checked) (X := fun w _ => laidMet Tryz.prog Rows.pagerActsRow.laid w) (fun _ _ _ hh h => h.of_heap hh) own started (by kernel_rfl) Tryz.func8
    (ChangeSpec.witness_at (enc := enc) (C := Tryz.checked) (os := os) (X := fun w _ => laidMet Tryz.prog Rows.pagerActsRow.laid w) false (laidWorld os) #[.slice none 0 0] 8 rfl (by kernel_rfl) (by kernel_rfl) (by kernel_rfl) (by kernel_rfl) (by kernel_rfl) (laidWorld_met os _)) ?_
  intro W base args ds gs before hval0 hW _ _ hL _
  have hval : ∀ (j : Nat) t v, Tryz.f8.params[j]? = some t → args[j]? = some v → Value.okWide Tryz.prog W .any base t v := hval0
  have hW' := hW
  obtain ⟨p, q, hA0, hV, rfl, hfz, hnd⟩ := hW
  have hA : DataW.TrodAll enc Tryz.prog W 0 (fun _ => true) true Tryz.f8.params.toList args.toList ds p := hA0
  have hA2 := hA
  have hlt : ∀ x ∈ p, x.block < W.heap.size := hA.lt

  rw [Tryz.params8] at hA hval
  obtain ⟨v0, vs0, d0, ds0, p0, q0, hargs, rfl, rfl, h0, r0⟩ := trodAll_cons hA
  obtain ⟨rfl, rfl, rfl⟩ := trodAll_nil r0
  obtain rfl : args = #[v0] := by cases args; simp_all
  obtain ⟨rfl, rfl⟩ := trodVars_none hV
  obtain ⟨A0, n0, c0, l0, rfl, hr0, hnc0, hcm0⟩ := open_acts Tryz.underlying51 Tryz.underlying54 (by kernel_rfl) (fun k hk => by match k, hk with | 0, _ => exact ⟨_, rfl, rfl, by kernel_rfl, Tryz.underlying3⟩ | 1, _ => exact ⟨_, rfl, rfl, by kernel_rfl, Tryz.underlying3⟩ | 2, _ => exact ⟨_, rfl, rfl, by kernel_rfl, Tryz.underlying3⟩) ⟨_, rfl, rfl, by kernel_rfl, _, Tryz.underlying22, Tryz.underlying5, by kernel_rfl⟩ ⟨_, rfl, rfl, by kernel_rfl, Tryz.underlying52⟩ (hval 0 51 v0 rfl rfl) h0
  clear hA0 hval0
  refine (pagerActs_walk A0 n0 c0 l0 W hr0 hnc0 hcm0 (pagerActs_laid W hL)).mono fun e W' ⟨he, bel⟩ => ?_
  subst he
  exact ⟨_, rfl, _, _, _, [], _, [], hW', trodAll_mk1 (shut_bool Tryz.underlying4 _), trodAll_below laidOut bel _ _ _ _ (of_decide_eq_true (by kernel_rfl)) hA2 hlt, rfl, bel.frame _, fun h => by cases h⟩

theorem over : Rows.pagerActsRow.holds Tryz.pinned (OpenSpec.ofChange Rows.pagerActsSpec) :=
  OpenClaim.holds_of_wide 8 Tryz.f8 rfl rfl rfl rfl rfl rfl rfl ⟨rfl, rfl, rfl, rfl, rfl⟩ rfl rfl rfl rfl rfl (by kernel_rfl) Tryz.func8 (by kernel_rfl)
    (of_decide_eq_true (by kernel_rfl)) (by unfold Func.isWrapper; first | (rw [if_pos (by decide +kernel)]; kernel_rfl) | (rw [if_neg (by decide +kernel)]; exact ⟨rfl, rfl⟩))
    (fun os started H enc _ => lifted os started H enc)

/-- The statement. -/
theorem proved : Rows.PagerActsCardSaid :=
  Claim7.holds_tied_plain_at .later [] [.data, .pinned] true (true, "1db71b22989e1706afd611810bab4b99dd84183074ae2c1012da52a0fa9e7d25") false
    over (fun _ h => by cases h) (by kernel_rfl) (fun _ h => by cases h) pagerActs_row_tie rfl ⟨rfl, rfl⟩ (by kernel_rfl) rfl
    (fun f fn hf hfn => by
      obtain rfl : f = 8 := Option.some.inj ((show Tryz.prog.funcNamed "inquest/inquestlaw17.PagerActs" = some 8 by kernel_rfl).symm.trans hf) |>.symm
      obtain rfl : fn = Tryz.f8 := (Option.some.inj (Tryz.func8.symm.trans hfn)).symm
      exact ⟨by kernel_rfl, fun j t ht => by
        rw [Tryz.params8] at ht
        have hm : t ∈ [51] := by
          have := Array.mem_of_getElem? ht
          simpa using this
        simp only [List.mem_cons, List.not_mem_nil, or_false] at hm
        rcases hm with rfl
        · exact (show Tryz.prog.wantsStandIn 51 = false by kernel_rfl)⟩)
    (by kernel_rfl)
#print axioms proved
end Go.Proofs.YtoadamkmabkldaaGreatDoor.pagerActs
