/- Plain functions: ranges, makers, openers of wafers. No conditions. -/
import Derived.Test.YtikdbjaimcciiaaGreatMLib
namespace Go.Proofs.YtikdbjaimcciiaaGreat
open Go.RowKit
set_option linter.unusedVariables false
set_option linter.unusedSimpArgs false

def inB (n lo hi : Int) : Bool := decide (lo ≤ n) && decide (n ≤ hi)
theorem inB_iff {n lo hi : Int} : inB n lo hi = true ↔ lo ≤ n ∧ n ≤ hi := by simp [inB]
theorem inB_false {n lo hi : Int} : inB n lo hi = false ↔ n < lo ∨ hi < n := by simp [inB]; omega

/-- A valid maker. -/
def isMk (c d s e l : Int) : Bool := inB c 2 6 && inB d 2 8 && inB s 1 (d - 1) && inB e 1 c && inB l 1 (min c d)
theorem isMk_iff {c d s e l : Int} : isMk c d s e l = true ↔ (2 ≤ c ∧ c ≤ 6) ∧ (2 ≤ d ∧ d ≤ 8) ∧ (1 ≤ s ∧ s ≤ d - 1) ∧ (1 ≤ e ∧ e ≤ c) ∧ (1 ≤ l ∧ l ≤ c ∧ l ≤ d) := by
  simp only [isMk, Bool.and_eq_true, inB_iff]; omega

/-- The reference's openers, at chambers and depths. -/
def mostR (d : Nat) : Nat → Nat → Nat
  | 0, w => if w = 0 then 1 else 0
  | c + 1, w => (List.range (min d (w + 1))).foldl (fun m i => max m ((i + 1) * mostR d c (w - i))) 0
/-- The program's openers. -/
def bal (c w : Nat) : Nat := (List.range c).foldl (fun p i => p * (if i < w % c then 1 + w / c + 1 else 1 + w / c)) 1
/-- Both are the same: a finite check. -/
def balR (d c w : Nat) : Nat := if w ≤ c * (d - 1) then bal c w else 0
def stepR (d c w : Nat) : Nat := (List.range (min d (w + 1))).foldl (fun m i => max m ((i + 1) * balR d c (w - i))) 0
theorem balR_step : ∀ d, d < 7 → ∀ c, c < 6 → ∀ w, w < 43 → stepR (d + 2) c w = balR (d + 2) (c + 1) w := by decide +kernel
theorem mostR_eq (d : Nat) (hd : d < 9) (hd2 : 2 ≤ d) : ∀ c, c < 7 → ∀ w, w < 43 → mostR d c w = balR d c w := by
  intro c
  induction c with
  | zero => intro _ w _; simp [mostR, balR, bal]
  | succ c ih =>
    intro hc w hw
    obtain ⟨d, rfl⟩ : ∃ e, d = e + 2 := ⟨d - 2, by omega⟩
    rw [← balR_step d (by omega) c (by omega) w hw]
    unfold mostR stepR
    have : ∀ (l : List Nat) (m : Nat), (∀ i ∈ l, i ≤ w) → l.foldl (fun m i => max m ((i + 1) * mostR (d + 2) c (w - i))) m = l.foldl (fun m i => max m ((i + 1) * balR (d + 2) c (w - i))) m := by
      intro l
      induction l with
      | nil => intro m _; rfl
      | cons x l il =>
        intro m h
        simp only [List.foldl_cons]
        rw [ih (by omega) (w - x) (by omega), il _ (fun i hi => h i (List.mem_cons_of_mem _ hi))]
    exact this _ _ (fun i hi => by simp at hi; omega)
theorem balR_bound : ∀ d, d < 7 → ∀ c, c < 7 → ∀ w, w < 43 → balR (d + 2) c w ≤ 300000 := by decide +kernel
theorem mostR_bound (d c w : Nat) (hd : d < 9) (hd2 : 2 ≤ d) (hc : c < 7) (hw : w < 43) : mostR d c w ≤ 300000 := by
  rw [mostR_eq d hd hd2 c hc w hw]
  have := balR_bound (d - 2) (by omega) c hc w hw
  rwa [show d - 2 + 2 = d from by omega] at this
def mostTo (d c w k : Nat) : Nat := (List.range k).foldl (fun m i => max m ((i + 1) * mostR d c (w - i))) 0
theorem mostTo_succ (d c w k : Nat) : mostTo d c w (k + 1) = max (mostTo d c w k) ((k + 1) * mostR d c (w - k)) := by
  simp only [mostTo, List.range_succ, List.foldl_append]; rfl
theorem mostR_succ (d c w : Nat) : mostR d (c + 1) w = mostTo d c w (min d (w + 1)) := by rw [mostR]; rfl
end Go.Proofs.YtikdbjaimcciiaaGreat
