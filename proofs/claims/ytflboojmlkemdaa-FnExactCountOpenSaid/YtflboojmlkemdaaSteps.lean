/- What the program and the reference answer on single steps and lists of steps. No conditions. -/
import Derived.Test.YtflboojmlkemdaaLib
import Derived.Test.YtflboojmlkemdaaChecked
import Derived.StillTailTactics
import Derived.Laws.StructEq
namespace Go.Proofs.Ytflboojmlkemdaa
open Go.RowKit
set_option linter.unusedVariables false

def openS (x : Int × Int) : Bool := x.1 == -1 && x.2 == 0
def eqS (x y : Int × Int) : Bool := x.1 == y.1 && x.2 == y.2
theorem eqS_iff {x y : Int × Int} : eqS x y = true ↔ x = y := by
  obtain ⟨a, b⟩ := x; obtain ⟨c, d⟩ := y; simp [eqS]

theorem isOpenStep_any (x : Int × Int) (W : World) :
    Calls Try.prog 30 #[.agg #[.int .i64 x.1, .int .i64 x.2]] W fun e' w' => e' = .returned (.bool (openS x)) ∧ Below W.heap.size W w' := by
  obtain ⟨k, d⟩ := x
  go_enter Try.func30, Try.ntmps30
  go_wp2
  all_goals go_ret
  all_goals exact ⟨by simp_all [openS], by (repeat (first | exact Below.refl _ _ | assumption | (with_reducible refine Below.alloc ?_ ?_ _) | (with_reducible refine Below.setCell ?_ ?_ _) | (with_reducible refine Below.drew ?_) | (refine Below.trans ?_ (Below.mono (by assumption) ?_)) | go_size))⟩
theorem l19Open_any (x : Int × Int) (W : World) :
    Calls Try.prog 28 #[.agg #[.int .i64 x.1, .int .i64 x.2]] W fun e' w' => e' = .returned (.bool (openS x)) ∧ Below W.heap.size W w' := by
  obtain ⟨k, d⟩ := x
  go_enter Try.func28, Try.ntmps28
  go_wp2
  all_goals go_ret
  all_goals exact ⟨by simp_all [openS], by (repeat (first | exact Below.refl _ _ | assumption | (with_reducible refine Below.alloc ?_ ?_ _) | (with_reducible refine Below.setCell ?_ ?_ _) | (with_reducible refine Below.drew ?_) | (refine Below.trans ?_ (Below.mono (by assumption) ?_)) | go_size))⟩
theorem toStep_any (x : Int × Int) (W : World) :
    Calls Try.prog 29 #[.agg #[.int .i64 x.1, .int .i64 x.2]] W fun e' w' => e' = .returned (.agg #[.int .i64 x.1, .int .i64 x.2]) ∧ Below W.heap.size W w' := by
  obtain ⟨k, d⟩ := x
  go_enter Try.func29, Try.ntmps29
  go_wp2
  exact bodyPost_ret (v := .agg #[.int .i64 k, .int .i64 d]) (by simp [results, Try.results29, go_sem]) rfl ⟨rfl, by (repeat (first | exact Below.refl _ _ | assumption | (with_reducible refine Below.alloc ?_ ?_ _) | (with_reducible refine Below.setCell ?_ ?_ _) | (with_reducible refine Below.drew ?_) | (refine Below.trans ?_ (Below.mono (by assumption) ?_)) | go_size))⟩
theorem eqStep_any (x y : Int × Int) (W : World) :
    Calls Try.prog 31 #[.agg #[.int .i64 x.1, .int .i64 x.2], .agg #[.int .i64 y.1, .int .i64 y.2]] W fun e' w' => e' = .returned (.bool (eqS x y)) ∧ Below W.heap.size W w' := by
  obtain ⟨k, d⟩ := x
  obtain ⟨k', d'⟩ := y
  go_enter Try.func31, Try.ntmps31
  go_wp2
  all_goals go_ret
  all_goals exact ⟨by simp_all [eqS], by (repeat (first | exact Below.refl _ _ | assumption | (with_reducible refine Below.alloc ?_ ?_ _) | (with_reducible refine Below.setCell ?_ ?_ _) | (with_reducible refine Below.drew ?_) | (refine Below.trans ?_ (Below.mono (by assumption) ?_)) | go_size))⟩

def szI' (n : Nat) (left : Int) : Int := if left < n then -1 else left - n
theorem szI'_ok {n : Nat} {left : Int} (h0 : 0 ≤ left) : (szI' n left = -1 ∧ left < n) ∨ (szI' n left = left - n ∧ (n : Int) ≤ left) := by
  unfold szI'; split
  · exact .inl ⟨rfl, by assumption⟩
  · exact .inr ⟨rfl, by omega⟩
theorem szStepS_any {S : Nat → Prop} (v : Value) (l : List (Int × Int)) (left : Int) (W : World) (h : VS S W v l) (hl : 0 ≤ left ∧ left ≤ 1048576) :
    Calls Try.prog 10 #[v, .int .i64 left] W fun e' w' => e' = .returned (.int .i64 (szI' l.length left)) ∧ W = w' := by
  obtain ⟨a, c, rfl, hm⟩ := h.form
  go_enter Try.func10, Try.ntmps10
  go_wp2
  all_goals go_ret
  · exact ⟨ret_int (by rw [szI', if_pos (by omega)]), rfl⟩
  · exact ⟨ret_int (by rw [szI', if_neg (by omega)]), rfl⟩
end Go.Proofs.Ytflboojmlkemdaa
