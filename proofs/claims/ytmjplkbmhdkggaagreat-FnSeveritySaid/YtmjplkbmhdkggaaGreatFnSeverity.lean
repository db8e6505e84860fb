/- 'laws.FnSeverity' returns true, whatever its arguments, and leaves them as they were. Conditions: none. -/
import Derived.Test.YtmjplkbmhdkggaaGreatChecked
import Derived.Test.YtmjplkbmhdkggaaGreatRows
import Derived.Test.YtmjplkbmhdkggaaGreatMLib
import Derived.Test.YtmjplkbmhdkggaaGreatMStops
import Derived.Test.YtmjplkbmhdkggaaGreatWFnSeverity
import Derived.Test.YtmjplkbmhdkggaaGreatMTable
namespace Go.Proofs.YtmjplkbmhdkggaaGreat.fnSeverity
open Go.ChangeShapes Go.WideShapes Go.ChangeAt Go.RowKit
set_option linter.unusedVariables false
set_option linter.unusedSimpArgs false
theorem own : ownKnob Tryz.prog.godebug = none := by kernel_rfl
theorem laid : laidOutB Tryz.prog = true := by kernel_rfl
theorem readable : (Tryz.f6.params.toList.all fun t => Tryz.prog.readableRec t && decide (t < Tryz.prog.types.size)) = true := by kernel_rfl
theorem c_byte : Tryz.prog.cellsOf 5 = 1 := by kernel_rfl
set_option maxRecDepth 100000 in
theorem lifted (os : Os) (started : os.Started) (H : Type) (enc : TypeId × Value → H) :
  ReturnsInHanded {} Tryz.checked os 6 .any (Rows.fnSeveritySpec.pre6 enc Tryz.prog Tryz.f6 Rows.fnSeverityRow.domain false) (Rows.fnSeveritySpec.post enc Tryz.prog Tryz.f6 false true false false) := by
 refine returnsInHanded_of_change (C := Tryz.checked) own started (by kernel_rfl) Tryz.func6
  (ChangeSpec.witness6 (enc := enc) (C := Tryz.checked) false ⟨#[], #[.slice none 0 0], []⟩ 8 (by kernel_rfl) (by kernel_rfl) (by kernel_rfl) (by kernel_rfl)) ?_
 intro W base args ds gs before hval0 hW hcnd _
 have hval : ∀ (j : Nat) t v, Tryz.f6.params[j]? = some t → args[j]? = some v → Value.okWide Tryz.prog W .any base t v := hval0
 have hW' := hW
 obtain ⟨p, q, hA0, hV, rfl, hfz, hnd⟩ := hW
 have hA : DataW.TrodAll enc Tryz.prog W 0 (fun _ => true) true Tryz.f6.params.toList args.toList ds p := hA0
 rw [Tryz.params6] at hA hval
 obtain ⟨v0, vs0, d0, ds0, p0, q0, hargs, rfl, rfl, h0, r0⟩ := trodAll_cons hA
 obtain ⟨rfl, rfl, rfl⟩ := trodAll_nil r0
 obtain rfl : args = #[v0] := by cases args; simp_all
 obtain ⟨rfl, rfl⟩ := trodVars_none hV
 obtain ⟨l0, V0⟩ := arg_bytes Tryz.underlying40 Tryz.underlying5 c_byte (hval 0 40 v0 rfl rfl) h0
 clear hA0 hval0
 refine (fnSeverity_walk W v0 l0 V0).mono fun e W' ⟨he, hB⟩ => ?_
 subst he
 exact ⟨_, rfl, law_post hW' rfl (by kernel_rfl) Tryz.underlying4 rfl hB laid readable⟩
theorem and2 {a b : Bool} (ha : a = true) (hb : b = true) : (a && b) = true := by rw [ha, hb]; rfl
set_option maxHeartbeats 0 in
theorem facts : joinedFacts Tryz.pinned.checked.prog 6 Tryz.f6 Rows.fnSeveritySpec Rows.fnSeverityRow = true := by
 unfold joinedFacts
 repeat' with_reducible refine and2 ?_ ?_
 all_goals first | with_reducible exact unstopped.1 | with_reducible exact unstopped.2.1 | with_reducible exact unstopped.2.2 | (as_aux_lemma => kernel_rfl)
theorem named : Tryz.pinned.checked.prog.funcNamed Rows.fnSeverityRow.func = some 6 := by kernel_rfl
theorem wrapped : Tryz.f6.isWrapper Tryz.pinned.checked.prog Rows.fnSeverityRow.wrapper Rows.fnSeverityRow.mainSum := by unfold Func.isWrapper; first | (rw [if_pos (by decide +kernel)]; kernel_rfl) | (rw [if_neg (by decide +kernel)]; exact ⟨rfl, rfl⟩)
theorem inst : Tryz.f6.isInstance Tryz.pinned.checked.prog Rows.fnSeverityRow.origin Rows.fnSeverityRow.targs := of_decide_eq_true (by kernel_rfl)
theorem over : Rows.fnSeverityRow.holds Tryz.pinned (OpenSpec.ofChange Rows.fnSeveritySpec) :=
 OpenClaim.holds_of_wide 6 Tryz.f6 rfl rfl rfl rfl rfl rfl rfl ⟨rfl, rfl, rfl, rfl, rfl⟩ rfl rfl rfl rfl rfl named Tryz.func6 facts inst wrapped
  (fun os started H enc _ => lifted os started H enc)
theorem proved : Rows.FnSeveritySaid := over
end Go.Proofs.YtmjplkbmhdkggaaGreat.fnSeverity
