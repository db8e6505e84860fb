/- No function of the cut is a stopped one. In chunks: in one piece the kernel outgrows its lid. No conditions. -/
import Derived.Test.YtikdbjaimcciiaaGreatRows
import Derived.JoinedOf
namespace Go.Proofs.YtikdbjaimcciiaaGreat
set_option linter.unusedVariables false
set_option linter.unusedSimpArgs false

def noStop (fn : Func) : Bool := (Stop.rowOf fn).isNone
theorem all_chunks {α : Type} (p : α → Bool) (n : Nat) (l : List α) : ∀ k, (∀ j, j < k → ((l.drop (n * j)).take n).all p = true) → l.length ≤ n * k → 0 < n → ∀ x ∈ l, p x = true := by
  intro k h hl hn x hx
  obtain ⟨i, hi, rfl⟩ := List.getElem_of_mem hx
  have hj : i / n < k := by
    rw [Nat.div_lt_iff_lt_mul hn, Nat.mul_comm]; omega
  have := h (i / n) hj
  rw [List.all_eq_true] at this
  refine this _ ?_
  have hm := Nat.div_add_mod i n
  have hlt := Nat.mod_lt i hn
  rw [List.mem_iff_getElem]
  refine ⟨i % n, by simp; omega, ?_⟩
  simp [hm]
theorem stops_none {P : Program} (h : ∀ fn ∈ P.funcs.toList, noStop fn = true) : (P.stops == []) = true ∧ (P.stopKnobs == []) = true ∧ P.stopsHeard = true := by
  have h1 : ∀ fn ∈ P.funcs.toList, Stop.rowOf fn = none := fun fn hf => by have := h fn hf; unfold noStop at this; exact Option.isNone_iff_eq_none.1 this
  refine ⟨?_, ?_, ?_⟩
  · have : (P.funcs.toList.filterMap fun fn => (Stop.rowOf fn).map (·.name)) = [] := List.filterMap_eq_nil_iff.2 fun fn hf => by rw [h1 fn hf]; rfl
    unfold Program.stops; rw [this]; rfl
  · have : P.funcs.toList.filterMap Stop.rowOf = [] := List.filterMap_eq_nil_iff.2 fun fn hf => h1 fn hf
    unfold Program.stopKnobs; rw [this]; rfl
  · unfold Program.stopsHeard
    rw [Array.all_eq_true_iff_forall_mem]
    intro fn hf
    rw [h1 fn (by simpa using hf)]; rfl
theorem chunk0 : ((Tryz.prog.funcs.toList.drop (10 * 0)).take 10).all noStop = true := by kernel_rfl
theorem chunk1 : ((Tryz.prog.funcs.toList.drop (10 * 1)).take 10).all noStop = true := by kernel_rfl
theorem chunk2 : ((Tryz.prog.funcs.toList.drop (10 * 2)).take 10).all noStop = true := by kernel_rfl
theorem chunk3 : ((Tryz.prog.funcs.toList.drop (10 * 3)).take 10).all noStop = true := by kernel_rfl
theorem chunk4 : ((Tryz.prog.funcs.toList.drop (10 * 4)).take 10).all noStop = true := by kernel_rfl
theorem chunk5 : ((Tryz.prog.funcs.toList.drop (10 * 5)).take 10).all noStop = true := by kernel_rfl
theorem chunk6 : ((Tryz.prog.funcs.toList.drop (10 * 6)).take 10).all noStop = true := by kernel_rfl
theorem chunk7 : ((Tryz.prog.funcs.toList.drop (10 * 7)).take 10).all noStop = true := by kernel_rfl
theorem chunk8 : ((Tryz.prog.funcs.toList.drop (10 * 8)).take 10).all noStop = true := by kernel_rfl
theorem chunk9 : ((Tryz.prog.funcs.toList.drop (10 * 9)).take 10).all noStop = true := by kernel_rfl
theorem chunk10 : ((Tryz.prog.funcs.toList.drop (10 * 10)).take 10).all noStop = true := by kernel_rfl
theorem chunk11 : ((Tryz.prog.funcs.toList.drop (10 * 11)).take 10).all noStop = true := by kernel_rfl
theorem chunk12 : ((Tryz.prog.funcs.toList.drop (10 * 12)).take 10).all noStop = true := by kernel_rfl
theorem chunk13 : ((Tryz.prog.funcs.toList.drop (10 * 13)).take 10).all noStop = true := by kernel_rfl
theorem chunk14 : ((Tryz.prog.funcs.toList.drop (10 * 14)).take 10).all noStop = true := by kernel_rfl
theorem chunk15 : ((Tryz.prog.funcs.toList.drop (10 * 15)).take 10).all noStop = true := by kernel_rfl
theorem chunk16 : ((Tryz.prog.funcs.toList.drop (10 * 16)).take 10).all noStop = true := by kernel_rfl
theorem chunk17 : ((Tryz.prog.funcs.toList.drop (10 * 17)).take 10).all noStop = true := by kernel_rfl
theorem chunk18 : ((Tryz.prog.funcs.toList.drop (10 * 18)).take 10).all noStop = true := by kernel_rfl
theorem chunk19 : ((Tryz.prog.funcs.toList.drop (10 * 19)).take 10).all noStop = true := by kernel_rfl
theorem chunk20 : ((Tryz.prog.funcs.toList.drop (10 * 20)).take 10).all noStop = true := by kernel_rfl
theorem chunk21 : ((Tryz.prog.funcs.toList.drop (10 * 21)).take 10).all noStop = true := by kernel_rfl
theorem chunk22 : ((Tryz.prog.funcs.toList.drop (10 * 22)).take 10).all noStop = true := by kernel_rfl
theorem chunk23 : ((Tryz.prog.funcs.toList.drop (10 * 23)).take 10).all noStop = true := by kernel_rfl
theorem chunk24 : ((Tryz.prog.funcs.toList.drop (10 * 24)).take 10).all noStop = true := by kernel_rfl
theorem chunk25 : ((Tryz.prog.funcs.toList.drop (10 * 25)).take 10).all noStop = true := by kernel_rfl
theorem chunk26 : ((Tryz.prog.funcs.toList.drop (10 * 26)).take 10).all noStop = true := by kernel_rfl
theorem chunk27 : ((Tryz.prog.funcs.toList.drop (10 * 27)).take 10).all noStop = true := by kernel_rfl
theorem chunk28 : ((Tryz.prog.funcs.toList.drop (10 * 28)).take 10).all noStop = true := by kernel_rfl
theorem chunk29 : ((Tryz.prog.funcs.toList.drop (10 * 29)).take 10).all noStop = true := by kernel_rfl
theorem chunk30 : ((Tryz.prog.funcs.toList.drop (10 * 30)).take 10).all noStop = true := by kernel_rfl
theorem chunk31 : ((Tryz.prog.funcs.toList.drop (10 * 31)).take 10).all noStop = true := by kernel_rfl
theorem few : Tryz.prog.funcs.toList.length ≤ 10 * 32 := of_decide_eq_true (by kernel_rfl)
theorem unstopped0 : (Tryz.prog.stops == []) = true ∧ (Tryz.prog.stopKnobs == []) = true ∧ Tryz.prog.stopsHeard = true :=
  stops_none (all_chunks noStop 10 _ 32 (fun j hj => by
    match j, hj with
    | 0, _ => exact chunk0
    | 1, _ => exact chunk1
    | 2, _ => exact chunk2
    | 3, _ => exact chunk3
    | 4, _ => exact chunk4
    | 5, _ => exact chunk5
    | 6, _ => exact chunk6
    | 7, _ => exact chunk7
    | 8, _ => exact chunk8
    | 9, _ => exact chunk9
    | 10, _ => exact chunk10
    | 11, _ => exact chunk11
    | 12, _ => exact chunk12
    | 13, _ => exact chunk13
    | 14, _ => exact chunk14
    | 15, _ => exact chunk15
    | 16, _ => exact chunk16
    | 17, _ => exact chunk17
    | 18, _ => exact chunk18
    | 19, _ => exact chunk19
    | 20, _ => exact chunk20
    | 21, _ => exact chunk21
    | 22, _ => exact chunk22
    | 23, _ => exact chunk23
    | 24, _ => exact chunk24
    | 25, _ => exact chunk25
    | 26, _ => exact chunk26
    | 27, _ => exact chunk27
    | 28, _ => exact chunk28
    | 29, _ => exact chunk29
    | 30, _ => exact chunk30
    | 31, _ => exact chunk31
    | n + 32, h => omega) few (by decide))
theorem unstopped : (Tryz.pinned.checked.prog.stops == []) = true ∧ (Tryz.pinned.checked.prog.stopKnobs == []) = true ∧ Tryz.pinned.checked.prog.stopsHeard = true := unstopped0
end Go.Proofs.YtikdbjaimcciiaaGreat
