/- 'laws.FnCounted' returns true, whatever its arguments, and leaves them as they were. Conditions: none. -/
import Derived.Test.YtmaefilliggjiaaGreatChecked
import Derived.Test.YtmaefilliggjiaaGreatRows
import Derived.Test.YtmaefilliggjiaaGreatMLib
import Derived.Test.YtmaefilliggjiaaGreatMTable
import Derived.Test.YtmaefilliggjiaaGreatWFnCounted
namespace Go.Proofs.YtmaefilliggjiaaGreat.fnCounted
open Go.ChangeShapes Go.WideShapes Go.ChangeAt Go.RowKit
set_option linter.unusedVariables false
set_option linter.unusedSimpArgs false
theorem own : ownKnob Tryz.prog.godebug = none := by kernel_rfl
theorem laid : laidOutB Tryz.prog = true := by kernel_rfl
theorem readable : (Tryz.f7.params.toList.all fun t => Tryz.prog.readableRec t && decide (t < Tryz.prog.types.size)) = true := by kernel_rfl
theorem c_byte : Tryz.prog.cellsOf 5 = 1 := by kernel_rfl
set_option maxRecDepth 100000 in
theorem lifted (os : Os) (started : os.Started) (H : Type) (enc : TypeId × Value → H) :
  ReturnsInHanded {} Tryz.checked os 7 .any (Rows.fnCountedSpec.pre6 enc Tryz.prog Tryz.f7 Rows.fnCountedRow.domain false) (Rows.fnCountedSpec.post enc Tryz.prog Tryz.f7 false true false false) := by
 refine returnsInHanded_of_change (C := Tryz.checked) own started (by kernel_rfl) Tryz.func7
  (ChangeSpec.witness6 (enc := enc) (C := Tryz.checked) false ⟨#[], #[.slice none 0 0], []⟩ 8 (by kernel_rfl) (by kernel_rfl) (by kernel_rfl) (by kernel_rfl)) ?_
 intro W base args ds gs before hval0 hW hcnd _
 have hval : ∀ (j : Nat) t v, Tryz.f7.params[j]? = some t → args[j]? = some v → Value.okWide Tryz.prog W .any base t v := hval0
 have hW' := hW
 obtain ⟨p, q, hA0, hV, rfl, hfz, hnd⟩ := hW
 have hA : DataW.TrodAll enc Tryz.prog W 0 (fun _ => true) true Tryz.f7.params.toList args.toList ds p := hA0
 rw [Tryz.params7] at hA hval
 obtain ⟨v0, vs0, d0, ds0, p0, q0, hargs, rfl, rfl, h0, r0⟩ := trodAll_cons hA
 obtain ⟨rfl, rfl, rfl⟩ := trodAll_nil r0
 obtain rfl : args = #[v0] := by cases args; simp_all
 obtain ⟨rfl, rfl⟩ := trodVars_none hV
 obtain ⟨l0, V0⟩ := arg_bytes Tryz.underlying22 Tryz.underlying5 c_byte (hval 0 22 v0 rfl rfl) h0
 clear hA0 hval0
 refine (fnCounted_walk W v0 l0 V0).mono fun e W' ⟨he, hB⟩ => ?_
 subst he
 exact ⟨_, rfl, law_post hW' rfl (by kernel_rfl) Tryz.underlying4 rfl hB laid readable⟩
theorem and2 {a b : Bool} (ha : a = true) (hb : b = true) : (a && b) = true := by rw [ha, hb]; rfl
set_option maxHeartbeats 0 in
theorem facts : joinedFacts Tryz.pinned.checked.prog 7 Tryz.f7 Rows.fnCountedSpec Rows.fnCountedRow = true := by
 unfold joinedFacts
 repeat' with_reducible refine and2 ?_ ?_
 all_goals first | with_reducible exact unstopped.1 | with_reducible exact unstopped.2.1 | with_reducible exact unstopped.2.2 | (as_aux_lemma => kernel_rfl)
theorem named : Tryz.pinned.checked.prog.funcNamed Rows.fnCountedRow.func = some 7 := by kernel_rfl
theorem wrapped : Tryz.f7.isWrapper Tryz.pinned.checked.prog Rows.fnCountedRow.wrapper Rows.fnCountedRow.mainSum := by unfold Func.isWrapper; first | (rw [if_pos (by decide +kernel)]; kernel_rfl) | (rw [if_neg (by decide +kernel)]; exact ⟨rfl, rfl⟩)
theorem inst : Tryz.f7.isInstance Tryz.pinned.checked.prog Rows.fnCountedRow.origin Rows.fnCountedRow.targs := of_decide_eq_true (by kernel_rfl)
theorem over : Rows.fnCountedRow.holds Tryz.pinned (OpenSpec.ofChange Rows.fnCountedSpec) :=
 OpenClaim.holds_of_wide 7 Tryz.f7 rfl rfl rfl rfl rfl rfl rfl ⟨rfl, rfl, rfl, rfl, rfl⟩ rfl rfl rfl rfl rfl named Tryz.func7 facts inst wrapped
  (fun os started H enc _ => lifted os started H enc)
theorem proved : Rows.FnCountedSaid := over
end Go.Proofs.YtmaefilliggjiaaGreat.fnCounted
