/- 'laws.FnExactParseSteps' returns true, whatever its arguments, and leaves them as they were; what the row lists is tied to the program's text. Conditions: none but what the card says. -/
import Derived.Test.YtmjplkbmhdkggaaDoorRows
import Derived.Test.YtmjplkbmhdkggaaDoorCards
import Derived.Test.YtmjplkbmhdkggaaDoorTie
import Derived.LaidMore
import Derived.Lay
import Derived.ChangeMaps5
import Derived.LaidHandle
import Derived.Stop.Joined
import Derived.SevenTiedAt
import Derived.Test.YtmjplkbmhdkggaaDoorMLib
import Derived.Test.YtmjplkbmhdkggaaDoorWFnExactParseSteps
import Derived.Test.YtmjplkbmhdkggaaDoorMPsJ
namespace Go.Proofs.YtmjplkbmhdkggaaDoor.fnExactParseSteps
open Go.ChangeShapes Go.WideShapes Go.ChangeAt Go.RowKit
set_option linter.unusedVariables false
set_option linter.unusedSimpArgs false
theorem own : ownKnob Tryd.prog.godebug = none := by kernel_rfl
theorem laidOut : laidOutB Tryd.prog = true := by kernel_rfl
theorem readable : (Tryd.f4.params.toList.all fun t => Tryd.prog.readableRec t && decide (t < Tryd.prog.types.size)) = true := by kernel_rfl
set_option maxRecDepth 100000 in
theorem lifted (os : Os) (started : os.Started) (H : Type) (enc : TypeId × Value → H) :
  ReturnsInHanded {} Tryd.checked os 4 .any (fun w args => (Rows.fnExactParseStepsSpec.pre enc Tryd.prog Tryd.f4 [] false w args ∧ laidMetH Tryd.prog Rows.fnExactParseStepsRow.laid w) ∧ sizedMet enc Tryd.prog Tryd.f4 (OpenSpec.ofChange Rows.fnExactParseStepsSpec) false w args) (Rows.fnExactParseStepsSpec.post enc Tryd.prog Tryd.f4 false true false false) := by
 refine handed_both (C := Tryd.checked) (X := fun w _ => laidMetH Tryd.prog Rows.fnExactParseStepsRow.laid w) (fun _ _ _ hh h => h.of_heap hh) own started (by kernel_rfl) Tryd.func4
  (ChangeSpec.witness_shaped (enc := enc) (C := Tryd.checked) (os := os) (X := fun w _ => laidMetH Tryd.prog Rows.fnExactParseStepsRow.laid w) false (World.laidAll Tryd.prog os Rows.fnExactParseStepsRow.laid) #[.string ByteArray.empty] 8 (World.laidAll_os _ _ _)
   (World.shaped_of_ZipB (by kernel_rfl) (by kernel_rfl)) (by kernel_rfl) (by kernel_rfl) (by kernel_rfl)
   (by rw [MakeChecks.laidMetH_plain _ _ _ (by kernel_rfl)]; exact laidMet_laidAll _ (by kernel_rfl) (by kernel_rfl))) ?_
 intro W base args ds gs before hval0 hW hcnd _ hx hsh _
 have hE : Env W := env_of ((MakeChecks.laidMetH_plain _ _ _ (by kernel_rfl)).mp hx) hsh
 clear hx hsh
 have hval : ∀ (j : Nat) t v, Tryd.f4.params[j]? = some t → args[j]? = some v → Value.okWide Tryd.prog W .any base t v := hval0
 have hW' := hW
 obtain ⟨p, q, hA0, hV, rfl, hfz, hnd⟩ := hW
 have hA : DataW.TrodAll enc Tryd.prog W 0 (fun _ => true) true Tryd.f4.params.toList args.toList ds p := hA0
 rw [Tryd.params4] at hA hval
 obtain ⟨v0, vs0, d0, ds0, p0, q0, hargs, rfl, rfl, h0, r0⟩ := trodAll_cons hA
 obtain ⟨rfl, rfl, rfl⟩ := trodAll_nil r0
 obtain rfl : args = #[v0] := by cases args; simp_all
 obtain ⟨rfl, rfl⟩ := trodVars_none hV
 obtain ⟨s0, rfl, rfl, rfl, k0⟩ := Go.ChangeMaps.open_string Tryd.underlying9 (hval 0 9 v0 rfl rfl) h0
 clear hA0 hval0
 have hs0 : bs s0.data.toList = s0 := rfl
 rw [← hs0]
 refine (fnExactParseSteps_walk W s0.data.toList hE).mono fun e W' ⟨he, hB⟩ => ?_
 subst he
 exact ⟨_, rfl, law_post hW' rfl (by kernel_rfl) Tryd.underlying4 rfl hB laidOut readable⟩
theorem and2 {a b : Bool} (ha : a = true) (hb : b = true) : (a && b) = true := by rw [ha, hb]; rfl
set_option maxHeartbeats 0 in
theorem facts : joinedFacts Tryd.pinned.checked.prog 4 Tryd.f4 Rows.fnExactParseStepsSpec Rows.fnExactParseStepsRow = true := by
 unfold joinedFacts
 repeat' with_reducible refine and2 ?_ ?_
 all_goals (as_aux_lemma => kernel_rfl)
theorem named : Tryd.pinned.checked.prog.funcNamed Rows.fnExactParseStepsRow.func = some 4 := by kernel_rfl
theorem wrapped : Tryd.f4.isWrapper Tryd.pinned.checked.prog Rows.fnExactParseStepsRow.wrapper Rows.fnExactParseStepsRow.mainSum := by unfold Func.isWrapper; first | (rw [if_pos (by decide +kernel)]; kernel_rfl) | (rw [if_neg (by decide +kernel)]; exact ⟨rfl, rfl⟩)
theorem inst : Tryd.f4.isInstance Tryd.pinned.checked.prog Rows.fnExactParseStepsRow.origin Rows.fnExactParseStepsRow.targs := of_decide_eq_true (by kernel_rfl)
theorem over : Rows.fnExactParseStepsRow.holds Tryd.pinned (OpenSpec.ofChange Rows.fnExactParseStepsSpec) :=
 OpenClaim.holds_of_wide 4 Tryd.f4 rfl rfl rfl rfl rfl rfl rfl ⟨rfl, rfl, rfl, rfl, rfl⟩ rfl rfl rfl rfl rfl named Tryd.func4 facts inst wrapped
  (fun os started H enc _ => lifted os started H enc)
theorem proved : Rows.FnExactParseStepsCardSaid :=
 Claim7.holds_tied_plain_at .later [] [.data, .data, .data, .data, .sentinel, .sentinel, .pinned] true (true, "f6f5adca5c586026740f9a979ae2f540b62045c9d32da16bc92e5d0c989efc92") true
  over (fun _ h => by cases h) (by kernel_rfl) (fun _ h => by cases h) fnExactParseSteps_row_tie rfl ⟨rfl, rfl⟩ (by kernel_rfl) rfl
  (fun f fn hf hfn => by
   obtain rfl : f = 4 := Option.some.inj ((show Tryd.prog.funcNamed "loop.example/g00947/laws.FnExactParseSteps" = some 4 by kernel_rfl).symm.trans hf) |>.symm
   obtain rfl : fn = Tryd.f4 := (Option.some.inj (Tryd.func4.symm.trans hfn)).symm
   exact ⟨by kernel_rfl, fun j t ht => by
    rw [Tryd.params4] at ht
    have hm : t ∈ [9] := by simpa using Array.mem_of_getElem? ht
    have hall : ([9].all fun u => !Tryd.prog.wantsStandIn u) = true := by kernel_rfl
    exact (show Tryd.prog.wantsStandIn t = false by simpa using List.all_eq_true.1 hall t hm)⟩)
  (by kernel_rfl)
end Go.Proofs.YtmjplkbmhdkggaaDoor.fnExactParseSteps
