/- 'laws.FnExactStepsText' returns true, whatever its arguments, and leaves them as they were; what the row lists is tied to the program's text. Conditions: none but what the card says. -/
import Derived.Test.YtmjplkbmhdkggaaDoorRows
import Derived.Test.YtmjplkbmhdkggaaDoorCards
import Derived.Test.YtmjplkbmhdkggaaDoorTie
import Derived.LaidMore
import Derived.LaidHandle
import Derived.Stop.Joined
import Derived.SevenTiedAt
import Derived.Test.YtmjplkbmhdkggaaDoorMLib
import Derived.Test.YtmjplkbmhdkggaaDoorWFnExactStepsText
namespace Go.Proofs.YtmjplkbmhdkggaaDoor.fnExactStepsText
open Go.ChangeShapes Go.WideShapes Go.ChangeAt Go.RowKit
set_option linter.unusedVariables false
set_option linter.unusedSimpArgs false
theorem own : ownKnob Tryd.prog.godebug = none := by kernel_rfl
theorem laidOut : laidOutB Tryd.prog = true := by kernel_rfl
theorem readable : (Tryd.f3.params.toList.all fun t => Tryd.prog.readableRec t && decide (t < Tryd.prog.types.size)) = true := by kernel_rfl
theorem c_int : Tryd.prog.cellsOf 2 = 1 := by kernel_rfl
theorem c_step : Tryd.prog.cellsOf 39 = 2 := by kernel_rfl
/-- The heap that the program's own text lays meets the condition: closed facts. -/
theorem door_met (os : Os) (args : Array Value) : laidMetH Tryd.prog Rows.fnExactStepsTextRow.laid ((World.doorLaid Tryd.prog 4000 os).forCall (fun _ _ => 0) ⟨#[], args, []⟩).memory :=
 laidMetH_of_parts3 (fuel := 8) (laidMet_of_run' 8 (by kernel_rfl) (by kernel_rfl)) (by kernel_rfl) (by kernel_rfl)
set_option maxRecDepth 100000 in
theorem lifted (os : Os) (started : os.Started) (H : Type) (enc : TypeId × Value → H) :
  ReturnsInHanded {} Tryd.checked os 3 .any (fun w args => (Rows.fnExactStepsTextSpec.pre enc Tryd.prog Tryd.f3 [] false w args ∧ laidMetH Tryd.prog Rows.fnExactStepsTextRow.laid w) ∧ sizedMet enc Tryd.prog Tryd.f3 (OpenSpec.ofChange Rows.fnExactStepsTextSpec) false w args) (Rows.fnExactStepsTextSpec.post enc Tryd.prog Tryd.f3 false true false false) := by
 refine returnsInHanded_of_change_and (C := Tryd.checked) (X := fun w _ => laidMetH Tryd.prog Rows.fnExactStepsTextRow.laid w) (fun _ _ _ hh h => h.of_heap hh) own started (by kernel_rfl) Tryd.func3
  (ChangeSpec.witness_shaped (enc := enc) (C := Tryd.checked) (os := os) (X := fun w _ => laidMetH Tryd.prog Rows.fnExactStepsTextRow.laid w) false (World.doorLaid Tryd.prog 4000 os) #[.slice none 0 0] 8 rfl (World.shaped_of_RefB (by kernel_rfl) (by kernel_rfl)) (by kernel_rfl) (by kernel_rfl) (by kernel_rfl) (door_met os _)) ?_
 intro W base args ds gs before hval0 hW hcnd _ _ _
 have hval : ∀ (j : Nat) t v, Tryd.f3.params[j]? = some t → args[j]? = some v → Value.okWide Tryd.prog W .any base t v := hval0
 have hW' := hW
 obtain ⟨p, q, hA0, hV, rfl, hfz, hnd⟩ := hW
 have hA : DataW.TrodAll enc Tryd.prog W 0 (fun _ => true) true Tryd.f3.params.toList args.toList ds p := hA0
 rw [Tryd.params3] at hA hval
 obtain ⟨v0, vs0, d0, ds0, p0, q0, hargs, rfl, rfl, h0, r0⟩ := trodAll_cons hA
 obtain ⟨rfl, rfl, rfl⟩ := trodAll_nil r0
 obtain rfl : args = #[v0] := by cases args; simp_all
 obtain ⟨rfl, rfl⟩ := trodVars_none hV
 obtain ⟨l0, V0, k0⟩ := arg_VS Tryd.underlying22 Tryd.underlying39 ⟨rfl, rfl, rfl, rfl⟩ Tryd.underlying2 c_int c_step (hval 0 22 v0 rfl rfl) h0
 clear hA0 hval0
 refine (fnExactStepsText_walk W v0 l0 V0 k0).mono fun e W' ⟨he, hB⟩ => ?_
 subst he
 exact ⟨_, rfl, law_post hW' rfl (by kernel_rfl) Tryd.underlying4 rfl hB laidOut readable⟩
theorem and2 {a b : Bool} (ha : a = true) (hb : b = true) : (a && b) = true := by rw [ha, hb]; rfl
set_option maxHeartbeats 0 in
theorem facts : joinedFacts Tryd.pinned.checked.prog 3 Tryd.f3 Rows.fnExactStepsTextSpec Rows.fnExactStepsTextRow = true := by
 unfold joinedFacts
 repeat' with_reducible refine and2 ?_ ?_
 all_goals (as_aux_lemma => kernel_rfl)
theorem named : Tryd.pinned.checked.prog.funcNamed Rows.fnExactStepsTextRow.func = some 3 := by kernel_rfl
theorem wrapped : Tryd.f3.isWrapper Tryd.pinned.checked.prog Rows.fnExactStepsTextRow.wrapper Rows.fnExactStepsTextRow.mainSum := by unfold Func.isWrapper; first | (rw [if_pos (by decide +kernel)]; kernel_rfl) | (rw [if_neg (by decide +kernel)]; exact ⟨rfl, rfl⟩)
theorem inst : Tryd.f3.isInstance Tryd.pinned.checked.prog Rows.fnExactStepsTextRow.origin Rows.fnExactStepsTextRow.targs := of_decide_eq_true (by kernel_rfl)
theorem over : Rows.fnExactStepsTextRow.holds Tryd.pinned (OpenSpec.ofChange Rows.fnExactStepsTextSpec) :=
 OpenClaim.holds_of_wide 3 Tryd.f3 rfl rfl rfl rfl rfl rfl rfl ⟨rfl, rfl, rfl, rfl, rfl⟩ rfl rfl rfl rfl rfl named Tryd.func3 facts inst wrapped
  (fun os started H enc _ => lifted os started H enc)
theorem proved : Rows.FnExactStepsTextCardSaid :=
 Claim7.holds_tied_plain_at .later [] [.data, .data, .data] true (true, "f6f5adca5c586026740f9a979ae2f540b62045c9d32da16bc92e5d0c989efc92") true
  over (fun _ h => by cases h) (by kernel_rfl) (fun _ h => by cases h) fnExactStepsText_row_tie rfl ⟨rfl, rfl⟩ (by kernel_rfl) rfl
  (fun f fn hf hfn => by
   obtain rfl : f = 3 := Option.some.inj ((show Tryd.prog.funcNamed "loop.example/g00947/laws.FnExactStepsText" = some 3 by kernel_rfl).symm.trans hf) |>.symm
   obtain rfl : fn = Tryd.f3 := (Option.some.inj (Tryd.func3.symm.trans hfn)).symm
   exact ⟨by kernel_rfl, fun j t ht => by
    rw [Tryd.params3] at ht
    have hm : t ∈ [22] := by simpa using Array.mem_of_getElem? ht
    have hall : ([22].all fun u => !Tryd.prog.wantsStandIn u) = true := by kernel_rfl
    exact (show Tryd.prog.wantsStandIn t = false by simpa using List.all_eq_true.1 hall t hm)⟩)
  (by kernel_rfl)
end Go.Proofs.YtmjplkbmhdkggaaDoor.fnExactStepsText
