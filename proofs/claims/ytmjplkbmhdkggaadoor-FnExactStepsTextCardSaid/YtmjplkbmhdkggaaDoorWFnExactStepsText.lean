/- The walk of 'laws.FnExactStepsText'. No conditions. -/
import Derived.Test.YtmjplkbmhdkggaaDoorMLib
import Derived.Test.YtmjplkbmhdkggaaDoorMStxC
import Derived.Test.YtmjplkbmhdkggaaDoorStxI
namespace Go.Proofs.YtmjplkbmhdkggaaDoor
open Go.RowKit
set_option linter.unusedVariables false
set_option linter.unusedSimpArgs false
set_option maxRecDepth 100000 in
set_option maxHeartbeats 2000000 in
theorem fnExactStepsText_walk (W : World) (v : Value) (l : List (Int × Int)) (h : VS (Old W) W v l) (hk : ∀ s ∈ l, i64ok s.1 ∧ i64ok s.2) :
  Calls Tryd.prog 3 #[v] W fun e' w' => e' = .returned (.bool true) ∧ Below W.heap.size W w' := by
 rcases szI'_ok (n := l.length) (left := 1048576) (by omega) with ⟨hs, hs'⟩ | ⟨hs, hs'⟩
 ·have Hs := Lib.hid hs; clear hs
  go_enter Tryd.func3, Tryd.ntmps3
  go_wp2_with fail
  refine (szStepS_any _ _ _ _ h (by omega)).mono ?_
  rintro e' w' ⟨rfl, rfl⟩
  rw [Hs.out]
  go_wp2_with fail
  go_ret
  exact ⟨rfl, Below.refl _ _⟩
 ·have Hs := Lib.hid hs; clear hs
  have hlen : l.length ≤ 1048576 := by omega
  obtain ⟨A, hA⟩ : ∃ A, stxAns l = A := ⟨_, rfl⟩
  have HA := Lib.hid hA; clear hA
  go_enter Tryd.func3, Tryd.ntmps3
  go_wp2_with fail
  refine (szStepS_any _ _ _ _ h (by omega)).mono ?_
  rintro e' w' ⟨rfl, rfl⟩
  rw [Hs.out]
  go_wp2_with fail
  refine (toStepS_any _ _ _ h hlen).mono ?_
  rintro e' w1 ⟨v1, rfl, hx1, _, hb1⟩
  go_wp2_with fail
  refine (StepsTextR_any (S := fun _ => True) _ l _ (hx1.vs (fun _ => trivial))).mono ?_
  rintro e' w2 ⟨rfl, hb2⟩
  rw [HA.out]
  have hB2 := hb1.trans (hb2.mono hb1.size)
  go_wp2_with fail
  refine (toStepS_any _ _ _ (h.below hB2) hlen).mono ?_
  rintro e' w3 ⟨v3, rfl, hx3, _, hb3⟩
  have hB3 := hB2.trans (hb3.mono hB2.size)
  have hv3 : VS (fun _ => True) w3 v3 l := hx3.vs (fun _ => trivial)
  go_wp2_with fail
  refine (StepsText_any _ l _ hv3 (by omega)).mono ?_
  rintro e' w4 ⟨rfl, hb4⟩
  rw [HA.out]
  have hB4 := hB3.trans (hb4.mono hB3.size)
  go_wp2_with fail
  refine (toStepS_any _ _ _ (h.below hB4) hlen).mono ?_
  rintro e' w5 ⟨v5, rfl, hx5, _, hb5⟩
  have hB5 := hB4.trans (hb5.mono hB4.size)
  go_wp2_with fail
  refine (eqStepS_b _ _ l l _ true (decide_eq_true rfl) ((hv3.below hb4).below hb5) (hx5.vs (S := fun _ => True) (fun _ => trivial))).mono ?_
  rintro e' w6 ⟨rfl, hb6⟩
  go_wp2_with fail
  go_ret
  exact ⟨rfl, hB5.trans (hb6.mono hB5.size)⟩
end Go.Proofs.YtmjplkbmhdkggaaDoor
