/- 'laws.FnExactDesignsOf' returns true, whatever its arguments, and leaves them as they were. Conditions: none. -/
import Derived.Test.YtikdbjaimcciiaaGreatChecked
import Derived.Test.YtikdbjaimcciiaaGreatRows
import Derived.Test.YtikdbjaimcciiaaGreatOpen
import Derived.Test.YtikdbjaimcciiaaGreatStops
import Derived.Test.YtikdbjaimcciiaaGreatWDesignsOf
namespace Go.Proofs.YtikdbjaimcciiaaGreat.fnExactDesignsOf
open Go.ChangeShapes Go.WideShapes Go.ChangeAt Go.RowKit
set_option linter.unusedVariables false
set_option linter.unusedSimpArgs false

theorem own : ownKnob Tryz.prog.godebug = none := by kernel_rfl
theorem laid : laidOutB Tryz.prog = true := by kernel_rfl
theorem readable : (Tryz.f5.params.toList.all fun t => Tryz.prog.readableRec t && decide (t < Tryz.prog.types.size)) = true := by kernel_rfl
theorem c_int : Tryz.prog.cellsOf 2 = 1 := by kernel_rfl
theorem c_ints : Tryz.prog.cellsOf 35 = 1 := by kernel_rfl
theorem c_maker : Tryz.prog.cellsOf 44 = 5 := by kernel_rfl
theorem c_rows : Tryz.prog.cellsOf 26 = 1 := by kernel_rfl
theorem c_sys : Tryz.prog.cellsOf 46 = 6 := by kernel_rfl

set_option maxRecDepth 100000 in
theorem lifted (os : Os) (started : os.Started) (H : Type) (enc : TypeId × Value → H) :
    ReturnsInHanded {} Tryz.checked os 5 .any (Rows.fnExactDesignsOfSpec.pre6 enc Tryz.prog Tryz.f5 Rows.fnExactDesignsOfRow.domain false) (Rows.fnExactDesignsOfSpec.post enc Tryz.prog Tryz.f5 false true false false) := by
  refine returnsInHanded_of_change (C := Tryz.checked) own started (by kernel_rfl) Tryz.func5
    (ChangeSpec.witness6 (enc := enc) (C := Tryz.checked) false ⟨#[], #[.agg #[.int .i64 0, .int .i64 0, .int .i64 0, .int .i64 0, .int .i64 0, .slice none 0 0], .int .i64 0, .int .i64 0], []⟩ 8 (by kernel_rfl) (by kernel_rfl) (by kernel_rfl) (by kernel_rfl)) ?_
  intro W base args ds gs before hval0 hW hcnd _
  have hval : ∀ (j : Nat) t v, Tryz.f5.params[j]? = some t → args[j]? = some v → Value.okWide Tryz.prog W .any base t v := hval0
  have hW' := hW
  obtain ⟨p, q, hA0, hV, rfl, hfz, hnd⟩ := hW
  have hA : DataW.TrodAll enc Tryz.prog W 0 (fun _ => true) true Tryz.f5.params.toList args.toList ds p := hA0
  rw [Tryz.params5] at hA hval
  obtain ⟨v0, vs0, d0, ds0, p0, q0, hargs, rfl, rfl, h0, r0⟩ := trodAll_cons hA
  obtain ⟨v1, vs1, d1, ds1, p1, q1, rfl, rfl, rfl, h1, r1⟩ := trodAll_cons r0
  obtain ⟨v2, vs2, d2, ds2, p2, q2, rfl, rfl, rfl, h2, r2⟩ := trodAll_cons r1
  obtain ⟨rfl, rfl, rfl⟩ := trodAll_nil r2
  obtain rfl : args = #[v0, v1, v2] := by cases args; simp_all
  obtain ⟨rfl, rfl⟩ := trodVars_none hV
  obtain ⟨a0, b0, c0, e0, g0, u0, l0, rfl, k0, V0, m0⟩ := arg_sys Tryz.underlying46 ⟨rfl, rfl, rfl, rfl⟩ Tryz.underlying44 ⟨⟨rfl, rfl⟩, ⟨rfl, rfl⟩, ⟨rfl, rfl⟩, ⟨rfl, rfl⟩, ⟨rfl, rfl⟩⟩ Tryz.underlying2 c_int c_maker c_sys Tryz.underlying26 Tryz.underlying35 c_rows c_ints (hval 0 46 v0 rfl rfl) h0
  obtain ⟨a1, rfl, k1⟩ := arg_int Tryz.underlying2 (hval 1 2 v1 rfl rfl) h1
  obtain ⟨a2, rfl, k2⟩ := arg_int Tryz.underlying2 (hval 2 2 v2 rfl rfl) h2
  clear hA0 hval0
  refine (fnExactDesignsOf_walk W a0 b0 c0 e0 g0 u0 l0 k0 V0 m0 a1 k1 a2 k2).mono fun e W' ⟨he, hB⟩ => ?_
  subst he
  exact ⟨_, rfl, law_post hW' rfl (by kernel_rfl) Tryz.underlying4 rfl hB laid readable⟩

theorem and2 {a b : Bool} (ha : a = true) (hb : b = true) : (a && b) = true := by rw [ha, hb]; rfl
set_option maxHeartbeats 0 in
theorem facts : joinedFacts Tryz.pinned.checked.prog 5 Tryz.f5 Rows.fnExactDesignsOfSpec Rows.fnExactDesignsOfRow = true := by
  unfold joinedFacts
  repeat' with_reducible refine and2 ?_ ?_
  all_goals first | with_reducible exact unstopped.1 | with_reducible exact unstopped.2.1 | with_reducible exact unstopped.2.2 | (as_aux_lemma => kernel_rfl)
theorem named : Tryz.pinned.checked.prog.funcNamed Rows.fnExactDesignsOfRow.func = some 5 := by kernel_rfl
theorem wrapped : Tryz.f5.isWrapper Tryz.pinned.checked.prog Rows.fnExactDesignsOfRow.wrapper Rows.fnExactDesignsOfRow.mainSum := by unfold Func.isWrapper; first | (rw [if_pos (by decide +kernel)]; kernel_rfl) | (rw [if_neg (by decide +kernel)]; exact ⟨rfl, rfl⟩)
theorem inst : Tryz.f5.isInstance Tryz.pinned.checked.prog Rows.fnExactDesignsOfRow.origin Rows.fnExactDesignsOfRow.targs := of_decide_eq_true (by kernel_rfl)

theorem over : Rows.fnExactDesignsOfRow.holds Tryz.pinned (OpenSpec.ofChange Rows.fnExactDesignsOfSpec) :=
  OpenClaim.holds_of_wide 5 Tryz.f5 rfl rfl rfl rfl rfl rfl rfl ⟨rfl, rfl, rfl, rfl, rfl⟩ rfl rfl rfl rfl rfl named Tryz.func5 facts inst wrapped
    (fun os started H enc _ => lifted os started H enc)

theorem proved : Rows.FnExactDesignsOfSaid := over
end Go.Proofs.YtikdbjaimcciiaaGreat.fnExactDesignsOf
