/- 'laws.FnExactLongestChain' returns true, whatever its arguments, and leaves them as they were. Conditions: none. -/
import Derived.Test.YtcdgechaehljgaaRows
import Derived.Test.YtcdgechaehljgaaOpen
import Derived.Test.YtcdgechaehljgaaStops
import Derived.Test.YtcdgechaehljgaaWLongestChain
namespace Go.Proofs.Ytcdgechaehljgaa.fnExactLongestChain
open Go.ChangeShapes Go.WideShapes Go.ChangeAt Go.RowKit
set_option linter.unusedVariables false
set_option linter.unusedSimpArgs false

theorem own : ownKnob Try.prog.godebug = none := by kernel_rfl
theorem laid : laidOutB Try.prog = true := by kernel_rfl
theorem readable : (Try.f11.params.toList.all fun t => Try.prog.readableRec t && decide (t < Try.prog.types.size)) = true := by kernel_rfl
theorem c_int : Try.prog.cellsOf 2 = 1 := by kernel_rfl
theorem c_ints : Try.prog.cellsOf 43 = 1 := by kernel_rfl

set_option maxRecDepth 100000 in
theorem lifted (os : Os) (started : os.Started) (H : Type) (enc : TypeId × Value → H) :
    ReturnsInHanded {} Try.checked os 11 .any (Rows.fnExactLongestChainSpec.pre6 enc Try.prog Try.f11 Rows.fnExactLongestChainRow.domain false) (Rows.fnExactLongestChainSpec.post enc Try.prog Try.f11 false true false false) := by
  refine returnsInHanded_of_change (C := Try.checked) own started (by kernel_rfl) Try.func11
    (ChangeSpec.witness6 (enc := enc) (C := Try.checked) false ⟨#[], #[.slice none 0 0], []⟩ 8 (by kernel_rfl) (by kernel_rfl) (by kernel_rfl) (by kernel_rfl)) ?_
  intro W base args ds gs before hval0 hW hcnd _
  have hval : ∀ (j : Nat) t v, Try.f11.params[j]? = some t → args[j]? = some v → Value.okWide Try.prog W .any base t v := hval0
  have hW' := hW
  obtain ⟨p, q, hA0, hV, rfl, hfz, hnd⟩ := hW
  have hA : DataW.TrodAll enc Try.prog W 0 (fun _ => true) true Try.f11.params.toList args.toList ds p := hA0
  rw [Try.params11] at hA hval
  obtain ⟨v0, vs0, d0, ds0, p0, q0, hargs, rfl, rfl, h0, r0⟩ := trodAll_cons hA
  obtain ⟨rfl, rfl, rfl⟩ := trodAll_nil r0
  obtain rfl : args = #[v0] := by cases args; simp_all
  obtain ⟨rfl, rfl⟩ := trodVars_none hV
  obtain ⟨l0, V0, k0⟩ := arg_V2 Try.underlying24 Try.underlying43 Try.underlying2 c_ints c_int (hval 0 24 v0 rfl rfl) h0
  clear hA0 hval0
  refine (fnExactLongestChain_walk W v0 l0 V0 k0).mono fun e W' ⟨he, hB⟩ => ?_
  subst he
  exact ⟨_, rfl, law_post hW' rfl (by kernel_rfl) Try.underlying4 rfl hB laid readable⟩

theorem and2 {a b : Bool} (ha : a = true) (hb : b = true) : (a && b) = true := by rw [ha, hb]; rfl
set_option maxHeartbeats 0 in
theorem facts : joinedFacts Try.pinned.checked.prog 11 Try.f11 Rows.fnExactLongestChainSpec Rows.fnExactLongestChainRow = true := by
  unfold joinedFacts
  repeat' with_reducible refine and2 ?_ ?_
  all_goals first | with_reducible exact unstopped.1 | with_reducible exact unstopped.2.1 | with_reducible exact unstopped.2.2 | (as_aux_lemma => kernel_rfl)
theorem named : Try.pinned.checked.prog.funcNamed Rows.fnExactLongestChainRow.func = some 11 := by kernel_rfl
theorem wrapped : Try.f11.isWrapper Try.pinned.checked.prog Rows.fnExactLongestChainRow.wrapper Rows.fnExactLongestChainRow.mainSum := by unfold Func.isWrapper; first | (rw [if_pos (by decide +kernel)]; kernel_rfl) | (rw [if_neg (by decide +kernel)]; exact ⟨rfl, rfl⟩)
theorem inst : Try.f11.isInstance Try.pinned.checked.prog Rows.fnExactLongestChainRow.origin Rows.fnExactLongestChainRow.targs := of_decide_eq_true (by kernel_rfl)

theorem over : Rows.fnExactLongestChainRow.holds Try.pinned (OpenSpec.ofChange Rows.fnExactLongestChainSpec) :=
  OpenClaim.holds_of_wide 11 Try.f11 rfl rfl rfl rfl rfl rfl rfl ⟨rfl, rfl, rfl, rfl, rfl⟩ rfl rfl rfl rfl rfl named Try.func11 facts inst wrapped
    (fun os started H enc _ => lifted os started H enc)

theorem proved : Rows.FnExactLongestChainSaid := over
end Go.Proofs.Ytcdgechaehljgaa.fnExactLongestChain
