/- 'laws.FnExactWorstGhosts' returns true, whatever its arguments, and leaves them as they were. Conditions: none. -/
import Derived.Test.YtmjplkbmhdkggaaGreatChecked
import Derived.Test.YtmjplkbmhdkggaaGreatRows
import Derived.Test.YtmjplkbmhdkggaaGreatMLib
import Derived.Test.YtmjplkbmhdkggaaGreatMSys2
import Derived.Test.YtmjplkbmhdkggaaGreatWFnExactWorstGhosts
namespace Go.Proofs.YtmjplkbmhdkggaaGreat.fnExactWorstGhosts
open Go.ChangeShapes Go.WideShapes Go.ChangeAt Go.RowKit
set_option linter.unusedVariables false
set_option linter.unusedSimpArgs false
theorem own : ownKnob Tryz.prog.godebug = none := by kernel_rfl
theorem laid : laidOutB Tryz.prog = true := by kernel_rfl
theorem readable : (Tryz.f3.params.toList.all fun t => Tryz.prog.readableRec t && decide (t < Tryz.prog.types.size)) = true := by kernel_rfl
theorem c_int : Tryz.prog.cellsOf 2 = 1 := by kernel_rfl
theorem c_ints : Tryz.prog.cellsOf 44 = 1 := by kernel_rfl
theorem c_maker : Tryz.prog.cellsOf 23 = 5 := by kernel_rfl
theorem c_rows : Tryz.prog.cellsOf 24 = 1 := by kernel_rfl
theorem c_sys : Tryz.prog.cellsOf 26 = 6 := by kernel_rfl
set_option maxRecDepth 100000 in
theorem lifted (os : Os) (started : os.Started) (H : Type) (enc : TypeId × Value → H) :
  ReturnsInHanded {} Tryz.checked os 3 .any (Rows.fnExactWorstGhostsSpec.pre6 enc Tryz.prog Tryz.f3 Rows.fnExactWorstGhostsRow.domain false) (Rows.fnExactWorstGhostsSpec.post enc Tryz.prog Tryz.f3 false true false false) := by
 refine returnsInHanded_of_change (C := Tryz.checked) own started (by kernel_rfl) Tryz.func3
  (ChangeSpec.witness6 (enc := enc) (C := Tryz.checked) false ⟨#[], #[.agg #[.int .i64 0, .int .i64 0, .int .i64 0, .int .i64 0, .int .i64 0, .slice none 0 0], .slice none 0 0, .int .i64 0], []⟩ 8 (by kernel_rfl) (by kernel_rfl) (by kernel_rfl) (by kernel_rfl)) ?_
 intro W base args ds gs before hval0 hW hcnd _
 have hval : ∀ (j : Nat) t v, Tryz.f3.params[j]? = some t → args[j]? = some v → Value.okWide Tryz.prog W .any base t v := hval0
 have hW' := hW
 obtain ⟨p, q, hA0, hV, rfl, hfz, hnd⟩ := hW
 have hA : DataW.TrodAll enc Tryz.prog W 0 (fun _ => true) true Tryz.f3.params.toList args.toList ds p := hA0
 rw [Tryz.params3] at hA hval
 obtain ⟨v0, vs0, d0, ds0, p0, q0, hargs, rfl, rfl, h0, r0⟩ := trodAll_cons hA
 obtain ⟨v1, vs1, d1, ds1, p1, q1, rfl, rfl, rfl, h1, r1⟩ := trodAll_cons r0
 obtain ⟨v2, vs2, d2, ds2, p2, q2, rfl, rfl, rfl, h2, r2⟩ := trodAll_cons r1
 obtain ⟨rfl, rfl, rfl⟩ := trodAll_nil r2
 obtain rfl : args = #[v0, v1, v2] := by cases args; simp_all
 obtain ⟨rfl, rfl⟩ := trodVars_none hV
 obtain ⟨a0, b0, c0, e0, g0, u0, l0, rfl, k0, V0, m0⟩ := arg_sys Tryz.underlying26 ⟨rfl, rfl, rfl, rfl⟩ Tryz.underlying23 ⟨⟨rfl, rfl⟩, ⟨rfl, rfl⟩, ⟨rfl, rfl⟩, ⟨rfl, rfl⟩, ⟨rfl, rfl⟩⟩ Tryz.underlying2 c_int c_maker c_sys Tryz.underlying24 Tryz.underlying44 c_rows c_ints (hval 0 26 v0 rfl rfl) h0
 obtain ⟨l1, V1, k1⟩ := arg_V2 Tryz.underlying24 Tryz.underlying44 Tryz.underlying2 c_ints c_int (hval 1 24 v1 rfl rfl) h1
 obtain ⟨a2, rfl, k2⟩ := arg_int Tryz.underlying2 (hval 2 2 v2 rfl rfl) h2
 clear hA0 hval0
 refine (fnExactWorstGhosts_walk W a0 b0 c0 e0 g0 u0 l0 k0 V0 m0 v1 l1 V1 k1 a2 k2).mono fun e W' ⟨he, hB⟩ => ?_
 subst he
 exact ⟨_, rfl, law_post hW' rfl (by kernel_rfl) Tryz.underlying4 rfl hB laid readable⟩
theorem and2 {a b : Bool} (ha : a = true) (hb : b = true) : (a && b) = true := by rw [ha, hb]; rfl
set_option maxHeartbeats 0 in
theorem facts : joinedFacts Tryz.pinned.checked.prog 3 Tryz.f3 Rows.fnExactWorstGhostsSpec Rows.fnExactWorstGhostsRow = true := by
 unfold joinedFacts
 repeat' with_reducible refine and2 ?_ ?_
 all_goals first | with_reducible exact unstopped.1 | with_reducible exact unstopped.2.1 | with_reducible exact unstopped.2.2 | (as_aux_lemma => kernel_rfl)
theorem named : Tryz.pinned.checked.prog.funcNamed Rows.fnExactWorstGhostsRow.func = some 3 := by kernel_rfl
theorem wrapped : Tryz.f3.isWrapper Tryz.pinned.checked.prog Rows.fnExactWorstGhostsRow.wrapper Rows.fnExactWorstGhostsRow.mainSum := by unfold Func.isWrapper; first | (rw [if_pos (by decide +kernel)]; kernel_rfl) | (rw [if_neg (by decide +kernel)]; exact ⟨rfl, rfl⟩)
theorem inst : Tryz.f3.isInstance Tryz.pinned.checked.prog Rows.fnExactWorstGhostsRow.origin Rows.fnExactWorstGhostsRow.targs := of_decide_eq_true (by kernel_rfl)
theorem over : Rows.fnExactWorstGhostsRow.holds Tryz.pinned (OpenSpec.ofChange Rows.fnExactWorstGhostsSpec) :=
 OpenClaim.holds_of_wide 3 Tryz.f3 rfl rfl rfl rfl rfl rfl rfl ⟨rfl, rfl, rfl, rfl, rfl⟩ rfl rfl rfl rfl rfl named Tryz.func3 facts inst wrapped
  (fun os started H enc _ => lifted os started H enc)
theorem proved : Rows.FnExactWorstGhostsSaid := over
end Go.Proofs.YtmjplkbmhdkggaaGreat.fnExactWorstGhosts
