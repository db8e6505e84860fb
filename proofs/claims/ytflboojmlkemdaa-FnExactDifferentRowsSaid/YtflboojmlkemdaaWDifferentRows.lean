/- The walk of 'laws.FnExactDifferentRows'. No conditions. -/
import Derived.Test.YtflboojmlkemdaaOpen
import Derived.Test.YtflboojmlkemdaaClos
namespace Go.Proofs.Ytflboojmlkemdaa
open Go.RowKit
set_option linter.unusedVariables false

theorem fnExactDifferentRows_walk (W : World) (v : Value) (t : List (List Int)) (h : V2 (Old W) W v t) (hk : ∀ r ∈ t, ∀ n ∈ r, i64ok n) :
    Calls Try.prog 6 #[v] W fun e' w' => e' = .returned (.bool true) ∧ Below W.heap.size W w' := by
  by_cases hs : szL t 1048576 < 0
  · go_enter Try.func6, Try.ntmps6
    go_wp2_with fail
    refine (szInt64SS_any _ _ _ _ h (by omega) (by omega)).mono ?_
    rintro e' w' ⟨rfl, rfl⟩
    go_wp2_with fail
    go_ret
    exact ⟨rfl, Below.refl _ _⟩
  · have hok := szL_ok (ls := t) (left := 1048576) (by omega) (by omega)
    have h0 : 0 ≤ szL t 1048576 := by omega
    have hlen : t.length ≤ 1048576 := by omega
    have hrow : ∀ r ∈ t, r.length ≤ 1048576 := fun r hr => by have := hok.2 r hr; omega
    have Hrow := Lib.hid hrow; clear hrow hok hk
    go_enter Try.func6, Try.ntmps6
    go_wp2_with fail
    refine (szInt64SS_any _ _ _ _ h (by omega) (by omega)).mono ?_
    rintro e' w' ⟨rfl, rfl⟩
    go_wp2_with fail
    refine (toInt64SS_any _ _ _ h hlen Hrow.out).mono ?_
    rintro e' w1 ⟨v1, bk1, rfl, hx1, _, _, hb1⟩
    go_wp2_with fail
    refine (DifferentRowsR_any (S := fun _ => True) _ t _ (hx1.v2 (fun _ => trivial) (fun _ _ _ => trivial))).mono ?_
    rintro e' w2 ⟨rfl, hb2⟩
    have hB2 := hb1.trans (hb2.mono hb1.size)
    go_wp2_with fail
    refine (toInt64SS_any _ _ _ (h.below hB2) hlen Hrow.out).mono ?_
    rintro e' w3 ⟨v3, bk3, rfl, hx3, _, _, hb3⟩
    have hB3 := hB2.trans (hb3.mono hB2.size)
    have hv3 : V2 (fun _ => True) w3 v3 t := hx3.v2 (fun _ => trivial) (fun _ _ _ => trivial)
    go_wp2_with fail
    refine (DifferentRows_any _ t _ hv3).mono ?_
    rintro e' w4 ⟨rfl, hb4⟩
    have hB4 := hB3.trans (hb4.mono hB3.size)
    go_wp2_with fail
    refine (toInt64SS_any _ _ _ (h.below hB4) hlen Hrow.out).mono ?_
    rintro e' w5 ⟨v5, bk5, rfl, hx5, _, _, hb5⟩
    have hB5 := hB4.trans (hb5.mono hB4.size)
    go_wp2_with fail
    refine (eqInt64SS_b _ _ t t _ true (decide_eq_true rfl) ((hv3.below hb4).below hb5) (hx5.v2 (S := fun _ => True) (fun _ => trivial) (fun _ _ _ => trivial))).mono ?_
    rintro e' w6 ⟨rfl, n, rfl⟩
    go_wp2_with fail
    go_ret
    exact ⟨rfl, below_drewN hB5 _⟩
end Go.Proofs.Ytflboojmlkemdaa
