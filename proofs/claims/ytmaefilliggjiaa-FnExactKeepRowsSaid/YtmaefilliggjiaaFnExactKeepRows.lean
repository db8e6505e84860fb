/- 'laws.FnExactKeepRows' returns true, whatever its arguments, and leaves them as they were. Conditions: none. -/
import Derived.Test.YtmaefilliggjiaaChecked
import Derived.Test.YtmaefilliggjiaaRows
import Derived.Test.YtmaefilliggjiaaMLib
import Derived.Test.YtmaefilliggjiaaWFnExactKeepRows
namespace Go.Proofs.Ytmaefilliggjiaa.fnExactKeepRows
open Go.ChangeShapes Go.WideShapes Go.ChangeAt Go.RowKit
set_option linter.unusedVariables false
set_option linter.unusedSimpArgs false
theorem own : ownKnob Try.prog.godebug = none := by kernel_rfl
theorem laid : laidOutB Try.prog = true := by kernel_rfl
theorem readable : (Try.f3.params.toList.all fun t => Try.prog.readableRec t && decide (t < Try.prog.types.size)) = true := by kernel_rfl
theorem c_int : Try.prog.cellsOf 2 = 1 := by kernel_rfl
theorem c_ints : Try.prog.cellsOf 27 = 1 := by kernel_rfl
theorem c_maker : Try.prog.cellsOf 23 = 5 := by kernel_rfl
theorem c_rows : Try.prog.cellsOf 24 = 1 := by kernel_rfl
theorem c_sys : Try.prog.cellsOf 26 = 6 := by kernel_rfl
set_option maxRecDepth 100000 in
theorem lifted (os : Os) (started : os.Started) (H : Type) (enc : TypeId × Value → H) :
  ReturnsInHanded {} Try.checked os 3 .any (Rows.fnExactKeepRowsSpec.pre6 enc Try.prog Try.f3 Rows.fnExactKeepRowsRow.domain false) (Rows.fnExactKeepRowsSpec.post enc Try.prog Try.f3 false true false false) := by
 refine returnsInHanded_of_change (C := Try.checked) own started (by kernel_rfl) Try.func3
  (ChangeSpec.witness6 (enc := enc) (C := Try.checked) false ⟨#[], #[.agg #[.int .i64 0, .int .i64 0, .int .i64 0, .int .i64 0, .int .i64 0, .slice none 0 0], .slice none 0 0, .slice none 0 0], []⟩ 8 (by kernel_rfl) (by kernel_rfl) (by kernel_rfl) (by kernel_rfl)) ?_
 intro W base args ds gs before hval0 hW hcnd _
 have hval : ∀ (j : Nat) t v, Try.f3.params[j]? = some t → args[j]? = some v → Value.okWide Try.prog W .any base t v := hval0
 have hW' := hW
 obtain ⟨p, q, hA0, hV, rfl, hfz, hnd⟩ := hW
 have hA : DataW.TrodAll enc Try.prog W 0 (fun _ => true) true Try.f3.params.toList args.toList ds p := hA0
 rw [Try.params3] at hA hval
 obtain ⟨v0, vs0, d0, ds0, p0, q0, hargs, rfl, rfl, h0, r0⟩ := trodAll_cons hA
 obtain ⟨v1, vs1, d1, ds1, p1, q1, rfl, rfl, rfl, h1, r1⟩ := trodAll_cons r0
 obtain ⟨v2, vs2, d2, ds2, p2, q2, rfl, rfl, rfl, h2, r2⟩ := trodAll_cons r1
 obtain ⟨rfl, rfl, rfl⟩ := trodAll_nil r2
 obtain rfl : args = #[v0, v1, v2] := by cases args; simp_all
 obtain ⟨rfl, rfl⟩ := trodVars_none hV
 obtain ⟨a0, b0, c0, e0, g0, u0, l0, rfl, k0, V0, m0⟩ := arg_sys Try.underlying26 ⟨rfl, rfl, rfl, rfl⟩ Try.underlying23 ⟨⟨rfl, rfl⟩, ⟨rfl, rfl⟩, ⟨rfl, rfl⟩, ⟨rfl, rfl⟩, ⟨rfl, rfl⟩⟩ Try.underlying2 c_int c_maker c_sys Try.underlying24 Try.underlying27 c_rows c_ints (hval 0 26 v0 rfl rfl) h0
 obtain ⟨l1, V1, k1⟩ := arg_V2 Try.underlying24 Try.underlying27 Try.underlying2 c_ints c_int (hval 1 24 v1 rfl rfl) h1
 obtain ⟨l2, V2, k2⟩ := arg_V1 Try.underlying27 Try.underlying2 c_int (hval 2 27 v2 rfl rfl) h2
 clear hA0 hval0
 refine (fnExactKeepRows_walk W a0 b0 c0 e0 g0 u0 l0 k0 V0 m0 v1 l1 V1 k1 v2 l2 V2 k2).mono fun e W' ⟨he, hB⟩ => ?_
 subst he
 exact ⟨_, rfl, law_post hW' rfl (by kernel_rfl) Try.underlying4 rfl hB laid readable⟩
theorem and2 {a b : Bool} (ha : a = true) (hb : b = true) : (a && b) = true := by rw [ha, hb]; rfl
set_option maxHeartbeats 0 in
theorem facts : joinedFacts Try.pinned.checked.prog 3 Try.f3 Rows.fnExactKeepRowsSpec Rows.fnExactKeepRowsRow = true := by
 unfold joinedFacts
 repeat' with_reducible refine and2 ?_ ?_
 all_goals first | with_reducible exact unstopped.1 | with_reducible exact unstopped.2.1 | with_reducible exact unstopped.2.2 | (as_aux_lemma => kernel_rfl)
theorem named : Try.pinned.checked.prog.funcNamed Rows.fnExactKeepRowsRow.func = some 3 := by kernel_rfl
theorem wrapped : Try.f3.isWrapper Try.pinned.checked.prog Rows.fnExactKeepRowsRow.wrapper Rows.fnExactKeepRowsRow.mainSum := by unfold Func.isWrapper; first | (rw [if_pos (by decide +kernel)]; kernel_rfl) | (rw [if_neg (by decide +kernel)]; exact ⟨rfl, rfl⟩)
theorem inst : Try.f3.isInstance Try.pinned.checked.prog Rows.fnExactKeepRowsRow.origin Rows.fnExactKeepRowsRow.targs := of_decide_eq_true (by kernel_rfl)
theorem over : Rows.fnExactKeepRowsRow.holds Try.pinned (OpenSpec.ofChange Rows.fnExactKeepRowsSpec) :=
 OpenClaim.holds_of_wide 3 Try.f3 rfl rfl rfl rfl rfl rfl rfl ⟨rfl, rfl, rfl, rfl, rfl⟩ rfl rfl rfl rfl rfl named Try.func3 facts inst wrapped
  (fun os started H enc _ => lifted os started H enc)
theorem proved : Rows.FnExactKeepRowsSaid := over
end Go.Proofs.Ytmaefilliggjiaa.fnExactKeepRows
