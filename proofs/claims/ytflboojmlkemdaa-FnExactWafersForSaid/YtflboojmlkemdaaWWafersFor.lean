/- The walk of 'laws.FnExactWafersFor'. No conditions. -/
import Derived.Test.YtflboojmlkemdaaOpen
import Derived.Test.YtflboojmlkemdaaWafers
namespace Go.Proofs.Ytflboojmlkemdaa
open Go.RowKit
set_option linter.unusedVariables false

theorem fnExactWafersFor_walk (W : World) (c d s e l : Int) (hm : i64ok c ∧ i64ok d ∧ i64ok s ∧ i64ok e ∧ i64ok l) (n : Int) (hn : i64ok n) :
    Calls Try.prog 5 #[.agg #[.int .i64 c, .int .i64 d, .int .i64 s, .int .i64 e, .int .i64 l], .int .i64 n] W fun e' w' => e' = .returned (.bool true) ∧ Below W.heap.size W w' := by
  go_enter Try.func5, Try.ntmps5
  go_wp2_with first | (go_at_call 8; refine (toMaker_any _ _ _ _ _ _).mono ?_; rintro e' w' ⟨rfl, hb⟩; have hzB := hb.size; (try simp only [World.size_alloc, World.size_setCell, World.size_drew] at hzB); have hx0 := fun o => (bcell hb).1 W.heap.size o (by go_size)) | (go_at_call 15; refine (WafersForR_any _ _ _ _ _ _ _).mono ?_; rintro e' w' ⟨rfl, hb⟩; have hzB := hb.size; (try simp only [World.size_alloc, World.size_setCell, World.size_drew] at hzB); have hx0 := fun o => (bcell hb).1 W.heap.size o (by go_size)) | (go_at_call 16; refine (WafersFor_any _ _ _ _ _ _ _).mono ?_; rintro e' w' ⟨rfl, hb⟩; have hzB := hb.size; (try simp only [World.size_alloc, World.size_setCell, World.size_drew] at hzB); have hx0 := fun o => (bcell hb).1 W.heap.size o (by go_size))
  go_ret
  exact ⟨rfl, by (repeat (first | exact Below.refl _ _ | assumption | (with_reducible refine Below.alloc ?_ ?_ _) | (with_reducible refine Below.setCell ?_ ?_ _) | (with_reducible refine Below.drew ?_) | (with_reducible refine below_drewN ?_ _) | (refine Below.trans ?_ (Below.mono (by assumption) ?_)) | go_size))⟩
end Go.Proofs.Ytflboojmlkemdaa
